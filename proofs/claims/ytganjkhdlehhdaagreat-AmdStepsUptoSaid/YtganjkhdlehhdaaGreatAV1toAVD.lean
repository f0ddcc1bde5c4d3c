/- The document's words at width 64: low part, top bit, adding bit by bit, flags by an answer. -/
import Derived.Test.YtganjkhdlehhdaaGreatAM4toAM5
import Derived.Test.YtganjkhdlehhdaaGreatRM3toAVC
set_option linter.unusedVariables false
set_option linter.unusedSimpArgs false
set_option maxHeartbeats 4000000
set_option maxRecDepth 100000
namespace Go.Proofs
open Go.Mu
theorem rlow_ok (a : Int) (H : List Blk) : ACalls Tryz.prog 87 [I 64, U a] H (fun e H' => e = .ret (U a) ∧ H' = H) := by
  refine acalls_of_vc (hn := fun _ => false) (od := fun _ => none) Tryz.func87 rfl (by kernel_rfl) ?_
  simp -dsimp
theorem rtop_ok (a : Int) (ha : Wd a) (H : List Blk) : ACalls Tryz.prog 89 [I 64, U a] H (fun e H' => e = .ret (Bo (hiB a)) ∧ H' = H) := by
  refine acalls_of_vc (hn := fun _ => false) (od := fun _ => none) Tryz.func89 rfl (by kernel_rfl) ?_
  have u63 : IntKind.u64.wrap 63 = 63 := by decide
  simp -dsimp [i64_63, u63, IntKind.bits, fd63 ha]
  cases hiB a <;> rfl
theorem mod_two {a P : Int} (hP : 0 < P) : a % (2 * P) = a % P + P * (a / P % 2) := by
  have e1 := Int.mul_ediv_add_emod a P
  have e2 := Int.mul_ediv_add_emod (a / P) 2
  have r0 := Int.emod_nonneg a (show P ≠ 0 by omega)
  have r1 := Int.emod_lt_of_pos a hP
  generalize a % P = r at *
  generalize hd : a / P = d at *
  generalize hq : d / 2 = q at *
  have hx : d % 2 = 0 ∨ d % 2 = 1 := by omega
  have e3 : a = (r + P * (d % 2)) + 2 * P * q := by
    rw [← e1]
    have : P * d = P * (d % 2) + 2 * P * q := by
      rw [show P * d = P * (2 * q + d % 2) by rw [e2], Int.mul_add, ← Int.mul_assoc, Int.mul_comm P 2]
      omega
    omega
  have e4 : a % (2 * P) = (r + P * (d % 2)) % (2 * P) := by rw [e3, Int.add_mul_emod_self_left]
  rw [e4, Int.emod_eq_of_lt]
  · rcases hx with h | h <;> rw [h] <;> omega
  · rcases hx with h | h <;> rw [h] <;> omega
theorem ad_step {P a b k cy n : Int} (hP : 0 < P) (hk : k = 0 ∨ k = 1) (hcy : cy = if P ≤ a % P + b % P + k then 1 else 0) (hn : n = a / P % 2 + b / P % 2 + cy) :
    (1 < n ↔ 2 * P ≤ a % (2 * P) + b % (2 * P) + k) ∧ (a % P + b % P + k) % P + n % 2 * P = (a % (2 * P) + b % (2 * P) + k) % (2 * P) := by
  rw [mod_two hP, mod_two hP]
  have a0 := Int.emod_nonneg a (show P ≠ 0 by omega)
  have a1 := Int.emod_lt_of_pos a hP
  have b0 := Int.emod_nonneg b (show P ≠ 0 by omega)
  have b1 := Int.emod_lt_of_pos b hP
  have hx : a / P % 2 = 0 ∨ a / P % 2 = 1 := by omega
  have hy : b / P % 2 = 0 ∨ b / P % 2 = 1 := by omega
  generalize a % P = r at *
  generalize b % P = s at *
  generalize a / P % 2 = x at *
  generalize b / P % 2 = y at *
  have low : (r + s + k) % P = r + s + k - P * cy := by
    rw [hcy]
    split
    · rw [Int.mul_one, ← Int.sub_emod_right, Int.emod_eq_of_lt (by omega) (by omega)]
    · rw [Int.mul_zero, Int.emod_eq_of_lt (by omega) (by omega), Int.sub_zero]
  rw [low]
  have hc : cy = 0 ∧ r + s + k < P ∨ cy = 1 ∧ P ≤ r + s + k := by
    rw [hcy]; split
    · exact .inr ⟨rfl, by assumption⟩
    · exact .inl ⟨rfl, by omega⟩
  clear hcy low
  rcases hc with ⟨rfl, hc⟩ | ⟨rfl, hc⟩ <;> rcases hx with rfl | rfl <;> rcases hy with rfl | rfl <;> subst hn <;> simp only [Int.mul_zero, Int.mul_one, Int.add_zero, Int.zero_add, Int.sub_zero, Int.reduceAdd, Int.reduceMod, Int.zero_mul, Int.one_mul] <;> refine ⟨by constructor <;> intro _ <;> omega, ?_⟩
  all_goals first
    | exact (Int.emod_eq_of_lt (by omega) (by omega)).symm
    | (rw [Int.emod_eq_of_lt (by omega) (by omega)]; omega)
    | (rw [← Int.sub_emod_right, Int.emod_eq_of_lt (by omega) (by omega)]; omega)
def adB (a b c : Int) (i : Nat) : Int := a % 2^i + b % 2^i + c
theorem radd64_ok (a b : Int) (ha : Wd a) (hb : Wd b) (c : Bool) (H : List Blk) : ACalls Tryz.prog 88 [I 64, U a, U b, Bo c] H (fun e H' => e = .ret (.tup [U (addV a b (if c then 1 else 0)), Bo (addC a b (if c then 1 else 0))]) ∧ H' = H) := by
  refine acalls_tidy (acalls_of_vc (hn := fun _ => false) (od := fun _ => none) Tryz.func88 rfl (by kernel_rfl) ?_)
  obtain ⟨k, hk⟩ : ∃ k : Int, k = if c then 1 else 0 := ⟨_, rfl⟩
  rw [← hk]
  simp -dsimp
  refine loop_rule (hn := fun _ => false) (od := fun _ => none) (fun (i : Nat) f H' => H' = H ∧ f 0 = I 64 ∧ f 1 = U a ∧ f 2 = U b ∧ f 3 = Bo (decide (2^i ≤ adB a b k i)) ∧ f 10 = U (adB a b k i % 2^i) ∧ f 11 = I i ∧ i ≤ 64) (fun i => 64 - i) (by kernel_rfl) 0 ?_ ?_
  · refine ⟨rfl, rfl, rfl, rfl, ?_, ?_, rfl, by omega⟩
    · show Bo c = Bo (decide ((1 : Int) ≤ adB a b k 0))
      have : adB a b k 0 = k := by unfold adB; show a % 1 + b % 1 + k = k; omega
      rw [this, hk]
      cases c <;> rfl
    · show U 0 = U (adB a b k 0 % 1)
      rw [Int.emod_one]
  rintro i f _ ⟨rfl, f0, f1, f2, f3, f10, f11, hi⟩
  obtain ⟨cy, hcy⟩ : ∃ cy, cy = decide (2^i ≤ adB a b k i) := ⟨_, rfl⟩
  obtain ⟨o, ho⟩ : ∃ o, o = adB a b k i % 2^i := ⟨_, rfl⟩
  rw [← hcy] at f3
  rw [← ho] at f10
  have wi : IntKind.u64.wrap (i : Int) = i := by rw [IntKind.wrap_u64]; omega
  have ni : ¬ (i : Int) < 0 := by omega
  simp -dsimp [f0, f1, f2, f3, f10, f11]
  refine condVW_introD (fun hlt => ?_) (fun hlt => ?_)
  · have mi : min i 64 = i := by omega
    have x1 : a.fdiv (2 ^ i) = a / 2^i := Int.fdiv_eq_ediv_of_nonneg _ (Int.pow_nonneg (by decide))
    have y1 : b.fdiv (2 ^ i) = b / 2^i := Int.fdiv_eq_ediv_of_nonneg _ (Int.pow_nonneg (by decide))
    simp -dsimp [f0, f1, f2, f3, f10, f11, wi, ni, mi, x1, y1, IntKind.bits]
    have hP : (0 : Int) < 2 ^ i := Int.pow_pos (by decide)
    have hP2 : (2 : Int) ^ i ≤ 9223372036854775808 := by
      have : (2 : Nat) ^ i ≤ 2 ^ 63 := Nat.pow_le_pow_right (by decide) (by omega)
      have : ((2 ^ i : Nat) : Int) ≤ ((2 ^ 63 : Nat) : Int) := by exact_mod_cast this
      simpa using this
    have hk' : k = 0 ∨ k = 1 := by rw [hk]; cases c <;> simp
    have hcc : (if cy = true then (1 : Int) else 0) = if (2 : Int) ^ i ≤ a % 2 ^ i + b % 2 ^ i + k then 1 else 0 := by
      rw [hcy]; unfold adB; simp only [decide_eq_true_eq]
    have st := ad_step (n := a / 2 ^ i % 2 + b / 2 ^ i % 2 + (if cy = true then 1 else 0)) hP hk' hcc rfl
    obtain ⟨n, hn⟩ : ∃ n, n = a / 2 ^ i % 2 + b / 2 ^ i % 2 + (if cy = true then (1 : Int) else 0) := ⟨_, rfl⟩
    rw [← hn] at st
    have ad0 : (0 : Int) ≤ a / 2 ^ i := Int.ediv_nonneg ha.1 (by omega)
    have bd0 : (0 : Int) ≤ b / 2 ^ i := Int.ediv_nonneg hb.1 (by omega)
    have ta : (a / 2 ^ i).tmod 2 = a / 2 ^ i % 2 := Int.tmod_eq_emod_of_nonneg ad0
    have tb : (b / 2 ^ i).tmod 2 = b / 2 ^ i % 2 := Int.tmod_eq_emod_of_nonneg bd0
    have o0 : 0 ≤ o ∧ o < 2 ^ i := by rw [ho]; exact ⟨Int.emod_nonneg _ (by omega), Int.emod_lt_of_pos _ hP⟩
    have n0 : 0 ≤ n ∧ n ≤ 3 := by rw [hn]; split <;> omega
    have w1 : IntKind.u64.wrap (a / 2 ^ i % 2 + b / 2 ^ i % 2) = a / 2 ^ i % 2 + b / 2 ^ i % 2 := by rw [IntKind.wrap_u64]; omega
    have tn : n.tmod 2 = n % 2 := Int.tmod_eq_emod_of_nonneg n0.1
    have pow1 : (2 : Int) ^ (i + 1) = 2 * 2 ^ i := by rw [Int.pow_succ, Int.mul_comm]
    have fin : (1 < n ↔ 2 ^ (i + 1) ≤ adB a b k (i + 1)) ∧ IntKind.u64.wrap (o + IntKind.u64.wrap (n.tmod 2 * 2 ^ i)) = adB a b k (i + 1) % 2 ^ (i + 1) := by
      unfold adB
      rw [pow1]
      refine ⟨st.1, ?_⟩
      rw [tn, ← st.2, show a % 2 ^ i + b % 2 ^ i + k = adB a b k i from rfl, ← ho]
      have hx : n % 2 = 0 ∨ n % 2 = 1 := by omega
      rcases hx with hx | hx <;> rw [hx] <;> simp only [Int.zero_mul, Int.one_mul] <;> rw [IntKind.wrap_u64, IntKind.wrap_u64] <;> omega
    cases cy
    · have w2 : IntKind.u64.wrap (a / 2 ^ i % 2 + b / 2 ^ i % 2) = n := by rw [w1, hn]; simp
      simp -dsimp [f0, f1, f2, f3, f10, f11, wi, ni, mi, x1, y1, ta, tb, w2, IntKind.bits]
      exact ⟨i + 1, by omega, fin.1, fin.2, wrapS (by omega), by omega⟩
    · have w2 : IntKind.u64.wrap (a / 2 ^ i % 2 + b / 2 ^ i % 2 + 1) = n := by rw [hn, if_pos rfl, IntKind.wrap_u64]; omega
      simp -dsimp [f0, f1, f2, f3, f10, f11, wi, ni, mi, x1, y1, ta, tb, w1, w2, IntKind.bits]
      exact ⟨i + 1, by omega, fin.1, fin.2, wrapS (by omega), by omega⟩
  · have i64 : i = 64 := by omega
    simp -dsimp [f0, f1, f2, f3, f10, f11]
    refine tidy_now rfl ⟨?_, rfl⟩
    have am : a % 2 ^ i = a := by rw [i64]; exact Int.emod_eq_of_lt ha.1 ha.2
    have bm : b % 2 ^ i = b := by rw [i64]; exact Int.emod_eq_of_lt hb.1 hb.2
    have e : adB a b k i = a + b + k := by unfold adB; rw [am, bm]
    rw [hcy, ho, e, i64]
    rfl
end Go.Proofs
namespace Go.Proofs
open Go.Mu
def cntB (a : Int) : Nat → Int
  | 0 => 0
  | i + 1 => cntB a i + a / 2 ^ i % 2
theorem cntB_rng (a : Int) : ∀ i : Nat, 0 ≤ cntB a i ∧ cntB a i ≤ i
  | 0 => by simp [cntB]
  | i + 1 => by
    have := cntB_rng a i
    show 0 ≤ cntB a i + a / 2 ^ i % 2 ∧ cntB a i + a / 2 ^ i % 2 ≤ ((i + 1 : Nat) : Int)
    omega
theorem parI (a : Int) (n : Nat) (h : a = (n : Int)) : ((0 + a / 1 % 2 + a / 2 % 2 + a / 4 % 2 + a / 8 % 2 + a / 16 % 2 + a / 32 % 2 + a / 64 % 2 + a / 128 % 2) % 2 == 0) = parN (n % 256) := by
  subst h
  have e1 : n % 256 % 2 = n % 2 := by omega
  have e2 : n % 256 / 2 % 2 = n / 2 % 2 := by omega
  have e3 : n % 256 / 4 % 2 = n / 4 % 2 := by omega
  have e4 : n % 256 / 8 % 2 = n / 8 % 2 := by omega
  have e5 : n % 256 / 16 % 2 = n / 16 % 2 := by omega
  have e6 : n % 256 / 32 % 2 = n / 32 % 2 := by omega
  have e7 : n % 256 / 64 % 2 = n / 64 % 2 := by omega
  have e8 : n % 256 / 128 % 2 = n / 128 % 2 := by omega
  unfold parN
  rw [e1, e2, e3, e4, e5, e6, e7, e8, Bool.eq_iff_iff, beq_iff_eq, beq_iff_eq, Int.ediv_one, Int.zero_add]
  have c : ((n : Int) % 2 + (n : Int) / 2 % 2 + (n : Int) / 4 % 2 + (n : Int) / 8 % 2 + (n : Int) / 16 % 2 + (n : Int) / 32 % 2 + (n : Int) / 64 % 2 + (n : Int) / 128 % 2) % 2 = (((n % 2 + n / 2 % 2 + n / 4 % 2 + n / 8 % 2 + n / 16 % 2 + n / 32 % 2 + n / 64 % 2 + n / 128 % 2) % 2 : Nat) : Int) := by
    simp only [Int.natCast_add, Int.natCast_emod, Int.natCast_ediv]
    rfl
  rw [c]
  constructor
  · intro h; exact_mod_cast h
  · intro h; exact_mod_cast h
theorem cntB_par {a : Int} (h : 0 ≤ a) : (cntB a 8 % 2 == 0) = parN (a.toNat % 256) := parI a a.toNat (Int.toNat_of_nonneg h).symm
theorem rby_ok (a : Int) (ha : Wd a) (g : Fl) (H : List Blk) : ACalls Tryz.prog 91 [I 64, U a, .agg g.cells] H (fun e H' => e = .ret (.agg (byF a g).cells) ∧ H' = H) := by
  refine acalls_tidy (acalls_of_awp Tryz.func91 rfl (by kernel_rfl) ?_)
  have ct := fun H => rtop_ok a ha H
  obtain ⟨qc, qz, qs, qo, qp⟩ := g
  obtain ⟨E, hE⟩ : ∃ E, E = byF a ⟨qc, qz, qs, qo, qp⟩ := ⟨_, rfl⟩
  rw [← hE]
  unfold byF at hE
  simp only at hE
  refine awp_cut (fun _ => false) (fun _ => none) (fun f M => M = H ++ [.box 26 [Bo qc, Bo qz, Bo qs, Bo qo, Bo qp], .box 26 [Bo false, Bo false, Bo false, Bo false, Bo false]] ∧ f 0 = I 64 ∧ f 1 = U a ∧ f 5 = .bp H.length 0 ∧ f 6 = .bp (H.length + 1) 0) (by kernel_rfl) ?_ ?_
  · simp -dsimp
  rintro f M ⟨hM, f0, f1, f5, f6⟩
  rw [hM]
  clear hM M
  refine awp_cut (fun _ => false) (fun _ => none) (fun f M => M = H ++ [.box 26 [Bo qc, Bo (a == 0), Bo qs, Bo qo, Bo qp], .box 26 [Bo false, Bo false, Bo false, Bo false, Bo false]] ∧ f 0 = I 64 ∧ f 1 = U a ∧ f 5 = .bp H.length 0 ∧ f 6 = .bp (H.length + 1) 0) (by kernel_rfl) ?_ ?_
  · simp -dsimp [f0, f1, f5, f6]
    skip
  clear f0 f1 f5 f6 f
  rintro f M ⟨hM, f0, f1, f5, f6⟩
  rw [hM]
  clear hM M
  refine awp_cut (fun _ => false) (fun _ => none) (fun f M => M = H ++ [.box 26 [Bo qc, Bo (a == 0), Bo (hiB a), Bo qo, Bo qp], .box 26 [Bo false, Bo false, Bo false, Bo false, Bo false]] ∧ f 0 = I 64 ∧ f 1 = U a ∧ f 5 = .bp H.length 0 ∧ f 6 = .bp (H.length + 1) 0) (by kernel_rfl) ?_ ?_
  · simp -dsimp [f0, f1, f5, f6]
    refine acallsW_det (ct _) ?_
    simp -dsimp [f0, f1, f5, f6]
    skip
  clear f0 f1 f5 f6 f
  rintro f M ⟨hM, f0, f1, f5, f6⟩
  refine awp_cut (fun _ => false) (fun _ => none) (fun f M' => M' = M ∧ f 1 = U a ∧ f 5 = .bp H.length 0 ∧ f 6 = .bp (H.length + 1) 0 ∧ f 7 = I 0) (by kernel_rfl) ?_ ?_
  · simp -dsimp [f0, f1, f5, f6]
  clear f0 f1 f5 f6 f
  rintro f Mx ⟨hMx, f1, f5, f6, f7⟩
  rw [hMx]
  clear hMx Mx
  refine awp_cut (fun _ => false) (fun _ => none) (fun f M' => M' = M ∧ f 5 = .bp H.length 0 ∧ f 6 = .bp (H.length + 1) 0 ∧ f 7 = I (cntB a 8)) (by kernel_rfl) ?_ ?_
  · simp -dsimp [f1, f5, f6, f7]
    refine loop_rule (hn := fun _ => false) (od := fun _ => none) (fun (i : Nat) f M' => M' = M ∧ f 1 = U a ∧ f 5 = .bp H.length 0 ∧ f 6 = .bp (H.length + 1) 0 ∧ f 7 = I (cntB a i) ∧ f 8 = I i ∧ i ≤ 8) (fun i => 8 - i) (by kernel_rfl) 0 (by simp [f1, f5, f6, f7, cntB]) ?_
    clear f1 f5 f6 f7 f
    rintro i f M' ⟨rfl, f1, f5, f6, f7, f8, hi⟩
    have wi : IntKind.u64.wrap (i : Int) = i := by rw [IntKind.wrap_u64]; omega
    have ni : ¬ (i : Int) < 0 := by omega
    have mi : min i 64 = i := by omega
    have x1 : a.fdiv (2 ^ i) = a / 2^i := Int.fdiv_eq_ediv_of_nonneg _ (Int.pow_nonneg (by decide))
    have hP : (0 : Int) < 2 ^ i := Int.pow_pos (by decide)
    have ad0 : (0 : Int) ≤ a / 2 ^ i := Int.ediv_nonneg ha.1 (by omega)
    have ta : (a / 2 ^ i).tmod 2 = a / 2 ^ i % 2 := Int.tmod_eq_emod_of_nonneg ad0
    have wc : IntKind.i64.wrap (a / 2 ^ i % 2) = a / 2 ^ i % 2 := by rw [IntKind.wrap_i64]; omega
    have hc := cntB_rng a i
    have ws : IntKind.i64.wrap (cntB a i + a / 2 ^ i % 2) = cntB a (i + 1) := by rw [IntKind.wrap_i64]; show _ = cntB a i + a / 2 ^ i % 2; omega
    simp -dsimp [f1, f5, f6, f7, f8]
    refine condVW_introD (fun hlt => ?_) (fun hlt => ?_)
    · simp -dsimp [f1, f5, f6, f7, f8, wi, ni, mi, x1, ta, wc, ws, IntKind.bits]
      exact ⟨i + 1, by omega, rfl, wrapS (by omega), by omega⟩
    · have : i = 8 := by omega
      simp -dsimp [f1, f5, f6, f7, f8]
      rw [this]
  clear f1 f5 f6 f7 f
  rintro f Mx ⟨hMx, f5, f6, f7⟩
  rw [hMx, hM]
  clear hMx Mx hM M
  have tc : (cntB a 8).tmod 2 = cntB a 8 % 2 := Int.tmod_eq_emod_of_nonneg (cntB_rng a 8).1
  have pr := cntB_par ha.1
  refine awp_all (hn := fun _ => false) (od := fun _ => none) (by kernel_rfl) ?_
  simp -dsimp [f5, f6, f7, tc, pr]
  rw [hE]
  exact tidy_same rfl ⟨by simp; rfl, rfl⟩
end Go.Proofs
namespace Go.Proofs
open Go.Mu
theorem rsigned_ok (a : Int) (H : List Blk) : ACalls Tryz.prog 108 [I 64, U a] H (fun e H' => e = .ret (U a) ∧ H' = H) := by
  refine acalls_tidy (acalls_of_vc (hn := fun _ => false) (od := fun _ => none) Tryz.func108 rfl (by kernel_rfl) ?_)
  have cl := fun H => rlow_ok a H
  simp -dsimp
  refine acallsW_det (cl _) ?_
  simp -dsimp
  refine loop_rule (hn := fun _ => false) (od := fun _ => none) (fun (i : Nat) f M' => M' = H ∧ f 1 = U a ∧ f 5 = I 64) (fun i => 0) (by kernel_rfl) 0 (by simp) ?_
  rintro i f M' ⟨rfl, f1, f5⟩
  simp -dsimp [f1, f5]
  exact tidy_now rfl ⟨rfl, rfl⟩
theorem wide_id (x1 x0 y1 y0 p00 p01 p10 p11 xy h : Int) (hh : h = 4294967296) (hx0 : 0 ≤ x0 ∧ x0 < h) (hx1 : 0 ≤ x1 ∧ x1 < h) (hy0 : 0 ≤ y0 ∧ y0 < h) (hy1 : 0 ≤ y1 ∧ y1 < h)
    (e00 : 0 ≤ p00 ∧ p00 ≤ 18446744065119617025) (e01 : 0 ≤ p01 ∧ p01 ≤ 18446744065119617025) (e10 : 0 ≤ p10 ∧ p10 ≤ 18446744065119617025) (e11 : 0 ≤ p11 ∧ p11 ≤ 18446744065119617025)
    (hxy : xy = p11 * 18446744073709551616 + (p10 + p01) * 4294967296 + p00) :
    p11 + (p00 / 4294967296 + p01) / 4294967296 + ((p00 / 4294967296 + p01) % 4294967296 + p10) / 4294967296 = xy / 18446744073709551616 ∧ p00 / 4294967296 + p01 < 18446744073709551616 ∧ (p00 / 4294967296 + p01) % 4294967296 + p10 < 18446744073709551616 ∧ p11 + (p00 / 4294967296 + p01) / 4294967296 < 18446744073709551616 := by
  subst hh
  refine ⟨?_, by omega, by omega, by omega⟩
  omega
theorem rwide_ok (x y : Int) (hx : Wd x) (hy : Wd y) (H : List Blk) : ACalls Tryz.prog 109 [U x, U y] H (fun e H' => e = .ret (.tup [U (x * y / 18446744073709551616), U (x * y % 18446744073709551616)]) ∧ H' = H) := by
  refine acalls_tidy (acalls_of_vc (hn := fun _ => false) (od := fun _ => none) Tryz.func109 rfl (by kernel_rfl) ?_)
  have tx : x.tmod 4294967296 = x % 4294967296 := Int.tmod_eq_emod_of_nonneg hx.1
  have ty : y.tmod 4294967296 = y % 4294967296 := Int.tmod_eq_emod_of_nonneg hy.1
  have dx : x.tdiv 4294967296 = x / 4294967296 := Int.tdiv_eq_ediv_of_nonneg hx.1
  have dy : y.tdiv 4294967296 = y / 4294967296 := Int.tdiv_eq_ediv_of_nonneg hy.1
  simp -dsimp [tx, ty, dx, dy]
  have ex := Int.mul_ediv_add_emod x 4294967296
  have ey := Int.mul_ediv_add_emod y 4294967296
  obtain ⟨hx0, hx1⟩ := hx
  obtain ⟨hy0, hy1⟩ := hy
  have bx0 : 0 ≤ x % 4294967296 ∧ x % 4294967296 < 4294967296 := by omega
  have by0 : 0 ≤ y % 4294967296 ∧ y % 4294967296 < 4294967296 := by omega
  have bx1 : 0 ≤ x / 4294967296 ∧ x / 4294967296 < 4294967296 := by omega
  have by1 : 0 ≤ y / 4294967296 ∧ y / 4294967296 < 4294967296 := by omega
  clear tx ty dx dy
  generalize x % 4294967296 = x0 at *
  generalize x / 4294967296 = x1 at *
  generalize y % 4294967296 = y0 at *
  generalize y / 4294967296 = y1 at *
  have ww : ∀ n : Int, 0 ≤ n → n < 18446744073709551616 → IntKind.u64.wrap n = n := fun n h0 h1 => by rw [IntKind.wrap_u64]; omega
  have td : ∀ n m : Int, 0 ≤ n → n.tdiv m = n / m := fun n m h => Int.tdiv_eq_ediv_of_nonneg h
  have tm : ∀ n m : Int, 0 ≤ n → n.tmod m = n % m := fun n m h => Int.tmod_eq_emod_of_nonneg h
  rw [ww x1 (by omega) (by omega), ww y1 (by omega) (by omega)]
  have pb : ∀ p q : Int, 0 ≤ p ∧ p < 4294967296 → 0 ≤ q ∧ q < 4294967296 → 0 ≤ p * q ∧ p * q ≤ 18446744065119617025 := fun p q hp hq => by
    refine ⟨Int.mul_nonneg hp.1 hq.1, ?_⟩
    exact Int.mul_le_mul (c := 4294967295) (d := 4294967295) (by omega) (by omega) hq.1 (by decide)
  have exy : x * y = x1 * y1 * 18446744073709551616 + (x1 * y0 + x0 * y1) * 4294967296 + x0 * y0 := by
    rw [← ex, ← ey, Int.add_mul, Int.mul_add, Int.mul_add, Int.mul_assoc, Int.mul_assoc, Int.mul_left_comm x1, Int.mul_left_comm x0]
    omega
  have q00 := pb _ _ bx0 by0
  have q01 := pb _ _ bx0 by1
  have q10 := pb _ _ bx1 by0
  have q11 := pb _ _ bx1 by1
  clear pb
  generalize x * y = xy at *
  generalize x0 * y0 = p00 at *
  generalize x0 * y1 = p01 at *
  generalize x1 * y0 = p10 at *
  generalize x1 * y1 = p11 at *
  have wid := wide_id x1 x0 y1 y0 p00 p01 p10 p11 xy 4294967296 rfl bx0 bx1 by0 by1 q00 q01 q10 q11 exy
  have fin : xy / 18446744073709551616 < 18446744073709551616 ∧ 0 ≤ xy / 18446744073709551616 := by omega
  obtain ⟨w0, w1, w2, w3⟩ := wid
  have z : IntKind.u64.wrap xy = xy % 18446744073709551616 := IntKind.wrap_u64 _
  rw [z, ww p00 (by omega) (by omega), td p00 _ (by omega), ww (p00 / 4294967296) (by omega) (by omega), ww p01 (by omega) (by omega), ww (p00 / 4294967296 + p01) (by omega) (by omega), td (p00 / 4294967296 + p01) _ (by omega), ww ((p00 / 4294967296 + p01) / 4294967296) (by omega) (by omega), tm (p00 / 4294967296 + p01) _ (by omega), ww p10 (by omega) (by omega), ww p11 (by omega) (by omega), ww (p11 + (p00 / 4294967296 + p01) / 4294967296) (by omega) (by omega), ww ((p00 / 4294967296 + p01) % 4294967296 + p10) (by omega) (by omega), td ((p00 / 4294967296 + p01) % 4294967296 + p10) _ (by omega), ww (((p00 / 4294967296 + p01) % 4294967296 + p10) / 4294967296) (by omega) (by omega), w0, ww (xy / 18446744073709551616) fin.2 fin.1]
  exact tidy_now rfl ⟨rfl, rfl⟩
end Go.Proofs
namespace Go.Proofs
open Go.Mu
def absU (a : Int) : Int := if hiB a = true then 18446744073709551616 - a else a
def fitsB (a b o : Int) : Bool :=
  if hiB o = true then ((hiB a != hiB b) && absU a * absU b / 18446744073709551616 == 0) && absU a * absU b % 18446744073709551616 == 18446744073709551616 - o
  else (absU a * absU b / 18446744073709551616 == 0 && absU a * absU b % 18446744073709551616 == o) && (!(hiB a != hiB b) || absU a * absU b % 18446744073709551616 == 0)
theorem wd_abs {a : Int} (h : Wd a) : Wd (absU a) := by
  obtain ⟨h0, h1⟩ := h
  unfold absU hiB
  split
  · rename_i e; have := of_decide_eq_true e; constructor <;> omega
  · exact ⟨h0, h1⟩
theorem neg_abs {a : Int} (h : Wd a) (hh : hiB a = true) : IntKind.u64.wrap (-a) = absU a := by
  obtain ⟨h0, h1⟩ := h
  unfold absU
  rw [if_pos hh, IntKind.wrap_u64]
  have := of_decide_eq_true hh
  omega
theorem rfits_ok (a b o : Int) (ha : Wd a) (hb : Wd b) (ho : Wd o) (H : List Blk) : ACalls Tryz.prog 90 [I 64, U a, U b, U o] H (fun e H' => e = .ret (Bo (fitsB a b o)) ∧ H' = H) := by
  refine acalls_tidy (acalls_of_awp Tryz.func90 rfl (by kernel_rfl) ?_)
  have cs := fun n H => rsigned_ok n H
  have cw := fun H => rwide_ok (absU a) (absU b) (wd_abs ha) (wd_abs hb) H
  have fa := fd63 ha
  have fb := fd63 hb
  have fo := fd63 ho
  have na := neg_abs ha
  have nb := neg_abs hb
  have no' := neg_abs ho
  obtain ⟨E, hE⟩ : ∃ E, E = fitsB a b o := ⟨_, rfl⟩
  rw [← hE]
  unfold fitsB at hE
  have aa : hiB a = false → absU a = a := fun h => by unfold absU; rw [h]; rfl
  have ab : hiB b = false → absU b = b := fun h => by unfold absU; rw [h]; rfl
  have ao : hiB o = true → absU o = 18446744073709551616 - o := fun h => by unfold absU; rw [h]; rfl
  generalize hiB a = sa at *
  generalize hiB b = sb at *
  generalize hiB o = so at *
  generalize hx : absU a = x at *
  generalize hy : absU b = y at *
  generalize x * y / 18446744073709551616 = hi at *
  generalize x * y % 18446744073709551616 = lo at *
  have u63 : IntKind.u64.wrap 63 = 63 := by decide
  refine awp_cut (fun _ => false) (fun _ => none) (fun f M => M = H ∧ f 0 = I 64 ∧ f 1 = U a ∧ f 2 = U b ∧ f 3 = U o) (by kernel_rfl) ?_ ?_
  · simp -dsimp
  rintro f M ⟨rfl, f0, f1, f2, f3⟩
  refine awp_cut (fun _ => false) (fun _ => none) (fun f M' => M' = M ∧ f 0 = I 64 ∧ f 3 = U o ∧ f 9 = U a ∧ f 10 = U b) (by kernel_rfl) ?_ ?_
  · simp -dsimp [f0, f1, f2, f3]
    refine acallsW_det (cs _ _) ?_
    simp -dsimp [f0, f1, f2, f3]
    refine acallsW_det (cs _ _) ?_
    simp -dsimp [f0, f1, f2, f3]
  clear f0 f1 f2 f3 f
  rintro f Mx ⟨hMx, f0, f3, f9, f10⟩
  rw [hMx]; clear hMx Mx
  refine awp_cut (fun _ => false) (fun _ => none) (fun f M' => M' = M ∧ f 0 = I 64 ∧ f 3 = U o ∧ f 9 = U a ∧ f 10 = U b ∧ f 11 = Bo (sa != sb)) (by kernel_rfl) ?_ ?_
  · simp -dsimp [f0, f3, f9, f10, fa, fb, u63, IntKind.bits]
    cases sa <;> cases sb <;> rfl
  clear f0 f3 f9 f10 f
  rintro f Mx ⟨hMx, f0, f3, f9, f10, f11⟩
  rw [hMx]; clear hMx Mx
  refine awp_cut (fun _ => false) (fun _ => none) (fun f M' => M' = M ∧ f 0 = I 64 ∧ f 3 = U o ∧ f 9 = U x ∧ f 10 = U b ∧ f 11 = Bo (sa != sb)) (by kernel_rfl) ?_ ?_
  · simp -dsimp [f0, f3, f9, f10, f11, fa, u63, IntKind.bits]
    cases sa
    · simp -dsimp [f0, f3, f9, f10, f11, aa]
    · simp -dsimp [f0, f3, f9, f10, f11, na]
  clear f0 f3 f9 f10 f11 f
  rintro f Mx ⟨hMx, f0, f3, f9, f10, f11⟩
  rw [hMx]; clear hMx Mx
  refine awp_cut (fun _ => false) (fun _ => none) (fun f M' => M' = M ∧ f 0 = I 64 ∧ f 3 = U o ∧ f 9 = U x ∧ f 10 = U y ∧ f 11 = Bo (sa != sb)) (by kernel_rfl) ?_ ?_
  · simp -dsimp [f0, f3, f9, f10, f11, fb, u63, IntKind.bits]
    cases sb
    · simp -dsimp [f0, f3, f9, f10, f11, ab]
    · simp -dsimp [f0, f3, f9, f10, f11, nb]
  clear f0 f3 f9 f10 f11 f
  rintro f Mx ⟨hMx, f0, f3, f9, f10, f11⟩
  rw [hMx]; clear hMx Mx
  refine awp_cut (fun _ => false) (fun _ => none) (fun f M' => M' = M ∧ f 0 = I 64 ∧ f 3 = U o ∧ f 11 = Bo (sa != sb) ∧ f 12 = U hi ∧ f 13 = U lo) (by kernel_rfl) ?_ ?_
  · simp -dsimp [f0, f3, f9, f10, f11]
    refine acallsW_det (cw _) ?_
    simp -dsimp [f0, f3, f11]
  clear f0 f3 f9 f10 f11 f
  rintro f Mx ⟨hMx, f0, f3, f11, f12, f13⟩
  rw [hMx]; clear hMx Mx
  refine awp_cut (fun _ => false) (fun _ => none) (fun f M' => M' = M ∧ f 14 = U o ∧ f 11 = Bo (sa != sb) ∧ f 12 = U hi ∧ f 13 = U lo) (by kernel_rfl) ?_ ?_
  · simp -dsimp [f0, f3, f11, f12, f13]
    refine acallsW_det (cs _ _) ?_
    simp -dsimp [f11, f12, f13]
  clear f0 f3 f11 f12 f13 f
  rintro f Mx ⟨hMx, f14, f11, f12, f13⟩
  rw [hMx]; clear hMx Mx
  generalize (sa != sb) = ng at *
  have leaf : ∀ c, c = E → Tidy M (fun e H' => e = .ret (Bo E) ∧ H' = M) (.ret (.v (.bool c))) M := fun c hc => tidy_now rfl ⟨by rw [hc], rfl⟩
  replace leaf := Hid.mk leaf
  refine awp_all (hn := fun _ => false) (od := fun _ => none) (by kernel_rfl) ?_
  simp -dsimp [f14, fo, u63, IntKind.bits]
  cases so
  · simp -dsimp [f11, f12, f13, f14]
    cases q1 : (hi == 0) <;> cases q2 : (lo == o) <;> cases ng
    all_goals
      simp -dsimp [f11, f12, f13, f14, q1, q2]
      try exact leaf.out _ (by rw [hE]; simp [q1, q2])
  · simp -dsimp [f11, f12, f13, f14, no', ao]
    cases q1 : (hi == 0) <;> cases ng
    all_goals
      simp -dsimp [f11, f12, f13, f14, q1, no', ao]
      try exact leaf.out _ (by rw [hE]; simp [q1])
end Go.Proofs
namespace Go.Proofs
open Go.Mu
theorem abs_le {a : Int} (h : Wd a) : 0 ≤ absU a ∧ absU a ≤ 9223372036854775808 := by
  obtain ⟨h0, h1⟩ := h
  unfold absU hiB
  split
  · rename_i e; have := of_decide_eq_true e; constructor <;> omega
  · rename_i e
    have : ¬ 9223372036854775808 ≤ a := by simpa using e
    constructor <;> omega
theorem fit_core (Q D xy o hi lo q r : Int) (hq : Q = 18446744073709551616 * q + o) (ho : 0 ≤ o ∧ o < 18446744073709551616) (hx : xy = 18446744073709551616 * hi + lo) (hl : 0 ≤ lo ∧ lo < 18446744073709551616)
    (hxy : 0 ≤ xy ∧ xy ≤ 85070591730234615865843651857942052864) (ng : Bool) (hs : if ng = true then Q - 18446744073709551616 * D = -xy else Q - 18446744073709551616 * D = xy) (so : Bool) (hso : so = decide (9223372036854775808 ≤ o)) :
    (if so = true then (ng && hi == 0) && lo == 18446744073709551616 - o else (hi == 0 && lo == o) && (!ng || lo == 0)) = !((q - D) % 18446744073709551616 != (if so = true then 18446744073709551615 else 0)) := by
  have hhi : 0 ≤ hi ∧ hi ≤ 4611686018427387904 := by omega
  cases ng
  · rw [if_neg (by decide)] at hs
    have e1 : lo = o := by omega
    have e2 : hi = q - D := by omega
    rw [← e2, e1]
    rw [Int.emod_eq_of_lt (by omega) (by omega)]
    cases so
    · by_cases h : hi = 0
      · simp [h]
      · simp only [Bool.false_eq_true, if_false]
        rw [show (hi == 0) = false from beq_eq_false_iff_ne.2 h, show (hi != 0) = true from bne_iff_ne.2 h]; simp
    · simp
      omega
  · rw [if_pos rfl] at hs
    have e3 : lo = 0 ∧ o = 0 ∨ lo = 18446744073709551616 - o ∧ 0 < o := by omega
    cases so
    · have : o < 9223372036854775808 := by
        have := hso.symm
        simpa using this
      rcases e3 with ⟨e, e'⟩ | ⟨e, e'⟩
      · have e2 : q - D = -hi := by omega
        rw [e2, e, e']
        by_cases h : hi = 0
        · simp [h]
        · have : (-hi) % 18446744073709551616 ≠ 0 := by omega
          rw [show (hi == 0) = false from beq_eq_false_iff_ne.2 h]
          simp only [Bool.false_eq_true, if_false]
          rw [show (-hi % 18446744073709551616 != 0) = true from bne_iff_ne.2 this]; rfl
      · have e2 : q - D = -hi - 1 := by omega
        have e4 : lo ≠ o := by omega
        have e5 : (-hi - 1) % 18446744073709551616 ≠ 0 := by omega
        have e6 : lo ≠ 0 := by omega
        rw [e2]
        simp only [Bool.false_eq_true, if_false]
        rw [show ((-hi - 1) % 18446744073709551616 != 0) = true from bne_iff_ne.2 e5, show (lo == o) = false from beq_eq_false_iff_ne.2 e4]; simp
    · have : 9223372036854775808 ≤ o := by
        have := hso.symm
        simpa using this
      rcases e3 with ⟨e, e'⟩ | ⟨e, e'⟩
      · omega
      · have e2 : q - D = -hi - 1 := by omega
        rw [e2, e]
        by_cases h : hi = 0
        · simp [h]
        · have : (-hi - 1) % 18446744073709551616 ≠ 18446744073709551615 := by omega
          simp only [if_true]
          rw [show ((-hi - 1) % 18446744073709551616 != 18446744073709551615) = true from bne_iff_ne.2 this, show (hi == 0) = false from beq_eq_false_iff_ne.2 h]; simp
theorem fits_mul {a b : Int} (ha : Wd a) (hb : Wd b) : fitsB a b (mulV a b) = !mulC a b := by
  have xa := abs_le ha
  have xb := abs_le hb
  have hm : 0 ≤ absU a * absU b ∧ absU a * absU b ≤ 85070591730234615865843651857942052864 := by
    refine ⟨Int.mul_nonneg xa.1 xb.1, ?_⟩
    exact Int.mul_le_mul (c := 9223372036854775808) (d := 9223372036854775808) xa.2 xb.2 xb.1 (by decide)
  have prod : if (hiB a != hiB b) = true then a * b - 18446744073709551616 * ((if hiB a = true then b else 0) + (if hiB b = true then a else 0) - (if hiB a = true ∧ hiB b = true then 18446744073709551616 else 0)) = -(absU a * absU b) else a * b - 18446744073709551616 * ((if hiB a = true then b else 0) + (if hiB b = true then a else 0) - (if hiB a = true ∧ hiB b = true then 18446744073709551616 else 0)) = absU a * absU b := by
    unfold absU
    cases hiB a <;> cases hiB b
    · simp
    · simp [Int.mul_sub, Int.mul_comm]; omega
    · simp [Int.sub_mul]; omega
    · simp [Int.sub_mul, Int.mul_sub]
      omega
  unfold fitsB mulC mulH mulV
  obtain ⟨D, hD⟩ : ∃ D, D = ((if hiB a = true then b else 0) + (if hiB b = true then a else 0) - (if hiB a = true ∧ hiB b = true then (18446744073709551616 : Int) else 0)) := ⟨_, rfl⟩
  rw [← hD] at prod
  have core := fit_core (a * b) D (absU a * absU b) (a * b % 18446744073709551616) (absU a * absU b / 18446744073709551616) (absU a * absU b % 18446744073709551616) (a * b / 18446744073709551616) 0 (Int.mul_ediv_add_emod _ _).symm ⟨Int.emod_nonneg _ (by decide), Int.emod_lt_of_pos _ (by decide)⟩ (Int.mul_ediv_add_emod _ _).symm ⟨Int.emod_nonneg _ (by decide), Int.emod_lt_of_pos _ (by decide)⟩ hm (hiB a != hiB b) prod (hiB (a * b % 18446744073709551616)) rfl
  rw [core]
  have e : wU (a * b / 18446744073709551616 - wU ((if hiB a = true then b else 0) + (if hiB b = true then a else 0))) = (a * b / 18446744073709551616 - D) % 18446744073709551616 := by
    unfold wU
    rw [IntKind.wrap_u64, IntKind.wrap_u64, hD]
    split <;> omega
  rw [e]
end Go.Proofs
namespace Go.Proofs
open Go.Mu
theorem sub_add {a b : Int} (ha : Wd a) (hb : Wd b) (c : Bool) : addV a (18446744073709551615 - b) (if (!c) = true then 1 else 0) = subV a b (if c = true then 1 else 0) ∧ (!addC a (18446744073709551615 - b) (if (!c) = true then 1 else 0)) = subC a b (if c = true then 1 else 0) := by
  obtain ⟨a0, a1⟩ := ha
  obtain ⟨b0, b1⟩ := hb
  unfold addV subV addC subC
  cases c
  · simp only [Bool.not_false, if_true, Bool.false_eq_true, if_false]
    refine ⟨by omega, ?_⟩
    rw [← decide_not]
    exact decide_eq_decide.2 (by omega)
  · simp only [Bool.not_true, if_true, Bool.false_eq_true, if_false]
    refine ⟨by omega, ?_⟩
    rw [← decide_not]
    exact decide_eq_decide.2 (by omega)
theorem wd_addV (a b c : Int) : Wd (addV a b c) := ⟨Int.emod_nonneg _ (by decide), Int.emod_lt_of_pos _ (by decide)⟩
theorem wd_subV (a b c : Int) : Wd (subV a b c) := ⟨Int.emod_nonneg _ (by decide), Int.emod_lt_of_pos _ (by decide)⟩
theorem wd_mulV (a b : Int) : Wd (mulV a b) := ⟨Int.emod_nonneg _ (by decide), Int.emod_lt_of_pos _ (by decide)⟩
theorem notU_eq {b : Int} (hb : Wd b) : notU b = 18446744073709551615 - b := by
  obtain ⟨b0, b1⟩ := hb
  unfold notU
  have e : (BitVec.ofInt IntKind.u64.bits (if IntKind.u64.signed then -1 else IntKind.u64.max)) = BitVec.allOnes 64 := rfl
  rw [e]
  show IntKind.u64.wrap ((BitVec.allOnes 64 ^^^ BitVec.ofInt 64 b).toNat) = _
  rw [BitVec.allOnes_xor, BitVec.toNat_not, BitVec.toNat_ofInt, IntKind.wrap_u64]
  omega
abbrev flB (c o : Bool) : Blk := .box 26 [Bo c, Bo false, Bo false, Bo o, Bo false]
theorem eq_bool2 (a b : Bool) : binE Tryz.prog .eql 4 (Bo a) (Bo b) = some (Bo (a == b)) := by cases a <;> cases b <;> kernel_rfl
theorem ne_bool2 (a b : Bool) : binE Tryz.prog .neq 4 (Bo a) (Bo b) = some (Bo (a != b)) := by cases a <;> cases b <;> kernel_rfl
theorem rdo_ok (op : Int) (hop : 1 ≤ op ∧ op ≤ 8) (a b : Int) (ha : Wd a) (hb : Wd b) (g : Fl) (H : List Blk) : ACalls Tryz.prog 48 [I op, I 64, U a, U b, .agg g.cells] H (fun e H' => e = .ret (.tup [U (doV op a b g), .agg (doF op a b g).cells]) ∧ H' = H) := by
  refine acalls_tidy (acalls_of_awp Tryz.func48 rfl (by kernel_rfl) ?_)
  have cl := fun n H => rlow_ok n H
  obtain ⟨gc, gz, gs, go, gp⟩ := g
  obtain ⟨v, hv⟩ : ∃ v, v = doV op a b ⟨gc, gz, gs, go, gp⟩ := ⟨_, rfl⟩
  obtain ⟨F, hF⟩ : ∃ F, F = doF op a b ⟨gc, gz, gs, go, gp⟩ := ⟨_, rfl⟩
  rw [← hv, ← hF]
  unfold doF at hF
  rw [← hv] at hF
  unfold doV at hv
  have hci : cIn op ⟨gc, gz, gs, go, gp⟩ = if (gc && (op == 2 || op == 4)) = true then 1 else 0 := by
    unfold cIn
    simp only [Bool.and_eq_true, Bool.or_eq_true, beq_iff_eq]
  rw [hci] at hv hF
  obtain ⟨cy, hcy⟩ : ∃ cy, cy = (gc && (op == 2 || op == 4)) := ⟨_, rfl⟩
  rw [← hcy] at hv hF
  obtain ⟨C, hC⟩ : ∃ C, C = bopC op a b (if cy = true then 1 else 0) := ⟨_, rfl⟩
  obtain ⟨O, hO⟩ : ∃ O, O = bopO op a b (if cy = true then 1 else 0) := ⟨_, rfl⟩
  rw [← hC, ← hO] at hF
  have wv : Wd v := by
    rw [hv]; unfold bopV
    split; exact wd_addV _ _ _
    split; exact wd_subV _ _ _
    split; exact wd_and _ _
    split; exact wd_or _ _
    split; exact wd_xor _ _
    exact wd_mulV _ _
  have hF' : (AV.agg F.cells) = .agg (byF v ⟨C, false, false, O, false⟩).cells := by rw [hF]
  obtain ⟨B, hB⟩ : ∃ B : List Blk, B = H ++ [.box 26 [Bo gc, Bo gz, Bo gs, Bo go, Bo gp], flB false false] := ⟨_, rfl⟩
  refine awp_cut (fun _ => false) (fun _ => none) (fun f M => M = B ∧ f 0 = I op ∧ f 1 = I 64 ∧ f 2 = U a ∧ f 3 = U b ∧ f 9 = .bp H.length 0 ∧ f 11 = .bp (H.length + 1) 0) (by kernel_rfl) ?_ ?_
  · simp -dsimp
    exact hB.symm
  rintro f M ⟨hM, f0, f1, f2, f3, f9, f11⟩
  rw [hM]; clear hM M
  have nB : B.length = H.length + 2 := by rw [hB]; simp
  have g9 : ∀ X, (B ++ X)[H.length]? = some (.box 26 [Bo gc, Bo gz, Bo gs, Bo go, Bo gp]) := fun X => by rw [hB]; simp
  have g11 : ∀ X, (B ++ X)[H.length + 1]? = some (flB false false) := fun X => by rw [hB]; simp
  refine awp_cut (fun _ => false) (fun _ => none) (fun f M => M = B ∧ f 0 = I op ∧ f 1 = I 64 ∧ f 2 = U a ∧ f 3 = U b ∧ f 9 = .bp H.length 0 ∧ f 11 = .bp (H.length + 1) 0) (by kernel_rfl) ?_ ?_
  · simp -dsimp [f0, f1, f2, f3, f9, f11]
    refine acallsW_det (cl _ _) ?_
    simp -dsimp [f0, f1, f2, f3, f9, f11]
    refine acallsW_det (cl _ _) ?_
    simp -dsimp [f0, f1, f2, f3, f9, f11]
  clear f0 f1 f2 f3 f9 f11 f
  rintro f M ⟨hM, f0, f1, f2, f3, f9, f11⟩
  rw [hM]; clear hM M
  obtain ⟨NF, hNF⟩ : ∃ NF : Bool → Bool → List Blk, ∀ c o, NF c o = B ++ [flB c o] := ⟨_, fun _ _ => rfl⟩
  refine awp_cut (fun _ => false) (fun _ => none) (fun f M => M = NF false false ∧ f 0 = I op ∧ f 1 = I 64 ∧ f 2 = U a ∧ f 3 = U b ∧ f 9 = .bp H.length 0 ∧ f 11 = .bp (H.length + 1) 0 ∧ f 12 = .bp (H.length + 2) 0) (by kernel_rfl) ?_ ?_
  · simp -dsimp [f0, f1, f2, f3, f9, f11, nB]
    exact (hNF _ _).symm
  clear f0 f1 f2 f3 f9 f11 f
  rintro f M ⟨hM, f0, f1, f2, f3, f9, f11, f12⟩
  rw [hM]; clear hM M
  have k9 : ∀ c o, (NF c o)[H.length]? = some (.box 26 [Bo gc, Bo gz, Bo gs, Bo go, Bo gp]) := fun c o => by rw [hNF]; exact g9 _
  have k12 : ∀ c o, (NF c o)[H.length + 2]? = some (flB c o) := fun c o => by rw [hNF, ← nB]; simp
  have s12 : ∀ c o c' o', (NF c o).set (H.length + 2) (flB c' o') = NF c' o' := fun c o c' o' => by rw [hNF, hNF, ← nB]; simp
  refine awp_cut (fun _ => false) (fun _ => none) (fun f M => M = NF false false ∧ f 0 = I op ∧ f 1 = I 64 ∧ f 2 = U a ∧ f 3 = U b ∧ f 9 = .bp H.length 0 ∧ f 11 = .bp (H.length + 1) 0 ∧ f 12 = .bp (H.length + 2) 0) (by kernel_rfl) ?_ ?_
  · simp -dsimp [f0, f1, f2, f3, f9, f11, f12]
  clear f0 f1 f2 f3 f9 f11 f12 f
  rintro f M ⟨hM, f0, f1, f2, f3, f9, f11, f12⟩
  rw [hM]; clear hM M
  refine awp_cut (fun _ => false) (fun _ => none) (fun f M => M = NF false false ∧ f 0 = I op ∧ f 1 = I 64 ∧ f 2 = U a ∧ f 3 = U b ∧ f 11 = .bp (H.length + 1) 0 ∧ f 12 = .bp (H.length + 2) 0 ∧ f 14 = Bo cy) (by kernel_rfl) ?_ ?_
  · simp -dsimp [f0, f1, f2, f3, f9, f11, f12, k9]
    cases gc
    · simp -dsimp [f0, f1, f2, f3, f11, f12]
      simp [hcy]
    · cases q2 : (op == 2)
      · simp -dsimp [f0, f1, f2, f3, f11, f12, q2]
        simp [hcy, q2]
      · simp -dsimp [f0, f1, f2, f3, f11, f12, q2]
        simp [hcy, q2]
  clear f0 f1 f2 f3 f9 f11 f12 f
  rintro f M ⟨hM, f0, f1, f2, f3, f11, f12, f14⟩
  rw [hM]; clear hM M
  have ct := fun n (h : Wd n) H => rtop_ok n h H
  have eb := eq_bool2
  have nb := ne_bool2
  refine awp_cut (fun _ => false) (fun _ => none) (fun f M => M = NF C O ∧ f 1 = I 64 ∧ f 11 = .bp (H.length + 1) 0 ∧ f 12 = .bp (H.length + 2) 0 ∧ f 13 = U v) (by kernel_rfl) ?_ ?_
  · have c8 : op = 1 ∨ op = 2 ∨ op = 3 ∨ op = 4 ∨ op = 5 ∨ op = 6 ∨ op = 7 ∨ op = 8 := by omega
    have add : ∀ op', op' = 1 ∨ op' = 2 → v = addV a b (if cy = true then 1 else 0) → C = addC a b (if cy = true then 1 else 0) → O = addO a b (if cy = true then 1 else 0) → True := fun _ _ _ _ _ => trivial
    clear hF hF' hci hcy add
    rcases c8 with rfl | rfl | rfl | rfl | rfl | rfl | rfl | rfl
    all_goals simp only [bopV, bopC, bopO] at hv hC hO
    · have ca := fun H => radd64_ok a b ha hb cy H
      have hv' : v = addV a b (if cy = true then 1 else 0) := by simpa using hv
      have hC' : C = addC a b (if cy = true then 1 else 0) := by simpa using hC
      have hO' : O = addO a b (if cy = true then 1 else 0) := by simpa using hO
      rw [← hv', ← hC'] at ca
      unfold addO at hO'
      rw [← hv'] at hO'
      have wv : Wd v := by rw [hv']; exact wd_addV _ _ _
      simp -dsimp [f0, f1, f2, f3, f11, f12, f14, k12, s12, eb, nb]
      refine acallsW_det (ca _) ?_
      simp -dsimp [f0, f1, f2, f3, f11, f12, f14, k12, s12, eb, nb]
      refine acallsW_det (ct a ha _) ?_
      simp -dsimp [f0, f1, f2, f3, f11, f12, f14, k12, s12, eb, nb]
      refine acallsW_det (ct b hb _) ?_
      simp -dsimp [f0, f1, f2, f3, f11, f12, f14, k12, s12, eb, nb]
      cases e1 : (hiB a == hiB b)
      · rw [e1] at hO'
        simp -dsimp [f0, f1, f2, f3, f11, f12, f14, k12, s12, eb, nb]
        rw [hO']; rfl
      · rw [e1] at hO'
        simp -dsimp [f0, f1, f2, f3, f11, f12, f14, k12, s12, eb, nb]
        refine acallsW_det (ct v wv _) ?_
        simp -dsimp [f0, f1, f2, f3, f11, f12, f14, k12, s12, eb, nb]
        refine acallsW_det (ct a ha _) ?_
        simp -dsimp [f0, f1, f2, f3, f11, f12, f14, k12, s12, eb, nb]
        rw [hO']; rfl
    · have ca := fun H => radd64_ok a b ha hb cy H
      have hv' : v = addV a b (if cy = true then 1 else 0) := by simpa using hv
      have hC' : C = addC a b (if cy = true then 1 else 0) := by simpa using hC
      have hO' : O = addO a b (if cy = true then 1 else 0) := by simpa using hO
      rw [← hv', ← hC'] at ca
      unfold addO at hO'
      rw [← hv'] at hO'
      have wv : Wd v := by rw [hv']; exact wd_addV _ _ _
      simp -dsimp [f0, f1, f2, f3, f11, f12, f14, k12, s12, eb, nb]
      refine acallsW_det (ca _) ?_
      simp -dsimp [f0, f1, f2, f3, f11, f12, f14, k12, s12, eb, nb]
      refine acallsW_det (ct a ha _) ?_
      simp -dsimp [f0, f1, f2, f3, f11, f12, f14, k12, s12, eb, nb]
      refine acallsW_det (ct b hb _) ?_
      simp -dsimp [f0, f1, f2, f3, f11, f12, f14, k12, s12, eb, nb]
      cases e1 : (hiB a == hiB b)
      · rw [e1] at hO'
        simp -dsimp [f0, f1, f2, f3, f11, f12, f14, k12, s12, eb, nb]
        rw [hO']; rfl
      · rw [e1] at hO'
        simp -dsimp [f0, f1, f2, f3, f11, f12, f14, k12, s12, eb, nb]
        refine acallsW_det (ct v wv _) ?_
        simp -dsimp [f0, f1, f2, f3, f11, f12, f14, k12, s12, eb, nb]
        refine acallsW_det (ct a ha _) ?_
        simp -dsimp [f0, f1, f2, f3, f11, f12, f14, k12, s12, eb, nb]
        rw [hO']; rfl
    · have sa := sub_add ha hb cy
      have ca := fun H => radd64_ok a (18446744073709551615 - b) ha ⟨by have := hb.2; omega, by have := hb.1; omega⟩ (!cy) H
      have hv' : v = subV a b (if cy = true then 1 else 0) := by simpa using hv
      have hC' : C = subC a b (if cy = true then 1 else 0) := by simpa using hC
      have hO' : O = subO a b (if cy = true then 1 else 0) := by simpa using hO
      rw [sa.1, ← hv'] at ca
      have sc : C = !addC a (18446744073709551615 - b) (if (!cy) = true then 1 else 0) := by rw [hC', sa.2]
      generalize addC a (18446744073709551615 - b) (if (!cy) = true then 1 else 0) = nc at ca sc
      unfold subO at hO'
      rw [← hv'] at hO'
      have wv : Wd v := by rw [hv']; exact wd_subV _ _ _
      have nq := notU_eq hb
      have ux : unA UnOp.xor (U b) = some (U (18446744073709551615 - b)) := by rw [← nq]; rfl
      simp -dsimp [f0, f1, f2, f3, f11, f12, f14, k12, s12, eb, nb, ux]
      refine acallsW_det (cl _ _) ?_
      simp -dsimp [f0, f1, f2, f3, f11, f12, f14, k12, s12, eb, nb, ux]
      refine acallsW_det (ca _) ?_
      simp -dsimp [f0, f1, f2, f3, f11, f12, f14, k12, s12, eb, nb]
      refine acallsW_det (ct a ha _) ?_
      simp -dsimp [f0, f1, f2, f3, f11, f12, f14, k12, s12, eb, nb]
      refine acallsW_det (ct b hb _) ?_
      simp -dsimp [f0, f1, f2, f3, f11, f12, f14, k12, s12, eb, nb]
      cases e1 : (hiB a != hiB b)
      · rw [e1] at hO'
        simp -dsimp [f0, f1, f2, f3, f11, f12, f14, k12, s12, eb, nb]
        rw [hO', sc]; rfl
      · rw [e1] at hO'
        simp -dsimp [f0, f1, f2, f3, f11, f12, f14, k12, s12, eb, nb]
        refine acallsW_det (ct v wv _) ?_
        simp -dsimp [f0, f1, f2, f3, f11, f12, f14, k12, s12, eb, nb]
        refine acallsW_det (ct b hb _) ?_
        simp -dsimp [f0, f1, f2, f3, f11, f12, f14, k12, s12, eb, nb]
        rw [hO', sc]; rfl
    · have sa := sub_add ha hb cy
      have ca := fun H => radd64_ok a (18446744073709551615 - b) ha ⟨by have := hb.2; omega, by have := hb.1; omega⟩ (!cy) H
      have hv' : v = subV a b (if cy = true then 1 else 0) := by simpa using hv
      have hC' : C = subC a b (if cy = true then 1 else 0) := by simpa using hC
      have hO' : O = subO a b (if cy = true then 1 else 0) := by simpa using hO
      rw [sa.1, ← hv'] at ca
      have sc : C = !addC a (18446744073709551615 - b) (if (!cy) = true then 1 else 0) := by rw [hC', sa.2]
      generalize addC a (18446744073709551615 - b) (if (!cy) = true then 1 else 0) = nc at ca sc
      unfold subO at hO'
      rw [← hv'] at hO'
      have wv : Wd v := by rw [hv']; exact wd_subV _ _ _
      have nq := notU_eq hb
      have ux : unA UnOp.xor (U b) = some (U (18446744073709551615 - b)) := by rw [← nq]; rfl
      simp -dsimp [f0, f1, f2, f3, f11, f12, f14, k12, s12, eb, nb, ux]
      refine acallsW_det (cl _ _) ?_
      simp -dsimp [f0, f1, f2, f3, f11, f12, f14, k12, s12, eb, nb, ux]
      refine acallsW_det (ca _) ?_
      simp -dsimp [f0, f1, f2, f3, f11, f12, f14, k12, s12, eb, nb]
      refine acallsW_det (ct a ha _) ?_
      simp -dsimp [f0, f1, f2, f3, f11, f12, f14, k12, s12, eb, nb]
      refine acallsW_det (ct b hb _) ?_
      simp -dsimp [f0, f1, f2, f3, f11, f12, f14, k12, s12, eb, nb]
      cases e1 : (hiB a != hiB b)
      · rw [e1] at hO'
        simp -dsimp [f0, f1, f2, f3, f11, f12, f14, k12, s12, eb, nb]
        rw [hO', sc]; rfl
      · rw [e1] at hO'
        simp -dsimp [f0, f1, f2, f3, f11, f12, f14, k12, s12, eb, nb]
        refine acallsW_det (ct v wv _) ?_
        simp -dsimp [f0, f1, f2, f3, f11, f12, f14, k12, s12, eb, nb]
        refine acallsW_det (ct b hb _) ?_
        simp -dsimp [f0, f1, f2, f3, f11, f12, f14, k12, s12, eb, nb]
        rw [hO', sc]; rfl
    · have hv' : v = andU a b := by simpa using hv
      have hC' : C = false := by simpa using hC
      have hO' : O = false := by simpa using hO
      simp -dsimp [f0, f1, f2, f3, f11, f12, f14, k12, s12, eb, nb]
      rw [hv', hC', hO']
      exact ⟨rfl, rfl⟩
    · have hv' : v = orU a b := by simpa using hv
      have hC' : C = false := by simpa using hC
      have hO' : O = false := by simpa using hO
      simp -dsimp [f0, f1, f2, f3, f11, f12, f14, k12, s12, eb, nb]
      rw [hv', hC', hO']
      exact ⟨rfl, rfl⟩
    · have hv' : v = xorU a b := by simpa using hv
      have hC' : C = false := by simpa using hC
      have hO' : O = false := by simpa using hO
      simp -dsimp [f0, f1, f2, f3, f11, f12, f14, k12, s12, eb, nb]
      rw [hv', hC', hO']
      exact ⟨rfl, rfl⟩
    · have hv' : v = mulV a b := by simpa using hv
      have hC' : C = mulC a b := by simpa using hC
      have hO' : O = mulC a b := by simpa using hO
      have wv : Wd v := by rw [hv']; exact wd_mulV _ _
      have cf := fun H => rfits_ok a b v ha hb wv H
      rw [hv', fits_mul ha hb, ← hv'] at cf
      have mv : IntKind.u64.wrap (a * b) = v := by rw [hv', IntKind.wrap_u64]; rfl
      generalize mulC a b = mc at hC' hO' cf
      simp -dsimp [f0, f1, f2, f3, f11, f12, f14, k12, s12, eb, nb, mv]
      refine acallsW_det (cl _ _) ?_
      simp -dsimp [f0, f1, f2, f3, f11, f12, f14, k12, s12, eb, nb, mv]
      refine acallsW_det (cf _) ?_
      simp -dsimp [f0, f1, f2, f3, f11, f12, f14, k12, s12, eb, nb, mv]
      rw [hC', hO']
  clear f0 f1 f2 f3 f11 f12 f14 f
  rintro f M ⟨hM, f1, f11, f12, f13⟩
  rw [hM]; clear hM M
  have cb := fun H => rby_ok v wv ⟨C, false, false, O, false⟩ H
  obtain ⟨K, hK⟩ : ∃ K, K = byF v ⟨C, false, false, O, false⟩ := ⟨_, rfl⟩
  rw [← hK] at cb hF hF'
  have hFK : F = K := hF
  subst hFK
  obtain ⟨q0, q1, q2, q3, q4⟩ := F
  simp only [Fl.cells] at cb
  have k11 : (NF C O)[H.length + 1]? = some (flB false false) := by rw [hNF]; exact g11 _
  refine awp_all (hn := fun _ => false) (od := fun _ => none) (by kernel_rfl) ?_
  simp -dsimp [f1, f11, f12, f13, k12]
  refine acallsW_det (cb _) ?_
  obtain ⟨NG, hNG⟩ : ∃ NG : Blk → List Blk, ∀ Z, (NF C O).set (H.length + 1) Z = NG Z := ⟨_, fun _ => rfl⟩
  have kz : ∀ Z, (NG Z)[H.length + 1]? = some Z := fun Z => by rw [← hNG, List.getElem?_set_self (lt_of_get k11)]
  simp -dsimp [f1, f11, f12, f13, k12, k11, hNG, kz]
  rw [← hNG, hNF, hB, List.append_assoc, List.set_append_right _ _ (by omega)]
  exact tidy_same rfl ⟨rfl, rfl⟩
end Go.Proofs
namespace Go.Proofs
open Go.Mu
theorem rholds_ok (c : Int) (h : 0 ≤ c ∧ c ≤ 15) (g : Fl) (H : List Blk) : ACalls Tryz.prog 50 [I c, .agg g.cells] H (fun e H' => e = .ret (Bo (holdsB c g)) ∧ H' = H) := by
  refine acalls_tidy (acalls_of_awp Tryz.func50 rfl (by kernel_rfl) ?_)
  obtain ⟨gc, gz, gs, go, gp⟩ := g
  have eb := eq_bool2
  have nb := ne_bool2
  obtain ⟨E, hE⟩ : ∃ E, E = holdsB c ⟨gc, gz, gs, go, gp⟩ := ⟨_, rfl⟩
  rw [← hE]
  unfold holdsB at hE
  simp only at hE
  obtain ⟨L, hL⟩ : ∃ L : List Bool, L = [go, gc, gz, gc || gz, gs, gp, gs != go, gz || gs != go] := ⟨_, rfl⟩
  refine awp_cut (fun _ => false) (fun _ => none) (fun f M => M = H ++ [.box 26 [Bo gc, Bo gz, Bo gs, Bo go, Bo gp]] ∧ f 0 = I c ∧ f 3 = .bp H.length 0) (by kernel_rfl) ?_ ?_
  · simp -dsimp
  rintro f M ⟨hM, f0, f3⟩
  rw [hM]; clear hM M
  refine awp_cut (fun _ => false) (fun _ => none) (fun f M => M = H ++ [.box 26 [Bo gc, Bo gz, Bo gs, Bo go, Bo gp]] ∧ f 0 = I c ∧ f 5 = .vs 1 (L.map fun b => [Bo b])) (by kernel_rfl) ?_ ?_
  · cases gc <;> cases gz
    all_goals
      rw [hL]
      simp -dsimp [f0, f3, eb, nb]
  clear f0 f3 f
  rintro f M ⟨hM, f0, f5⟩
  rw [hM]; clear hM M
  have leaf : ∀ X b, b = E → Tidy H (fun e H' => e = .ret (Bo E) ∧ H' = H) (.ret (.v (.bool b))) (H ++ X) := fun X b hb => tidy_same rfl ⟨by rw [hb], rfl⟩
  replace leaf := Hid.mk leaf
  refine awp_all (hn := fun _ => false) (od := fun _ => none) (by kernel_rfl) ?_
  have c16 : c = 0 ∨ c = 1 ∨ c = 2 ∨ c = 3 ∨ c = 4 ∨ c = 5 ∨ c = 6 ∨ c = 7 ∨ c = 8 ∨ c = 9 ∨ c = 10 ∨ c = 11 ∨ c = 12 ∨ c = 13 ∨ c = 14 ∨ c = 15 := by omega
  rw [hL] at f5
  rcases c16 with rfl | rfl | rfl | rfl | rfl | rfl | rfl | rfl | rfl | rfl | rfl | rfl | rfl | rfl | rfl | rfl
  all_goals
    simp -dsimp [f0, f5, eb, nb, IntKind.bits, IntKind.wrap, IntKind.signed]
    refine leaf.out _ _ ?_
    rw [hE]
    try simp
end Go.Proofs
namespace Go.Proofs
open Go.Mu
def rstepE (op a : Int) : Int × Bool :=
  if op = 1 then (2 * a % 18446744073709551616, hiB a)
  else if op = 2 then (a / 2, bit0 a)
  else if op = 3 then (a / 2 + (if hiB a = true then 9223372036854775808 else 0), bit0 a)
  else if op = 4 then (2 * a % 18446744073709551616 + (if hiB a = true then 1 else 0), hiB a)
  else (a / 2 + (if bit0 a = true then 9223372036854775808 else 0), bit0 a)
theorem wd_rstep (op : Int) {a : Int} (h : Wd a) : Wd (rstepE op a).1 := by
  obtain ⟨h0, h1⟩ := h
  unfold rstepE
  split; exact ⟨by show 0 ≤ 2 * a % _; omega, by show 2 * a % _ < _; omega⟩
  split; exact ⟨by show 0 ≤ a / 2; omega, by show a / 2 < _; omega⟩
  split; exact ⟨by show 0 ≤ a / 2 + _; split <;> omega, by show a / 2 + _ < _; split <;> omega⟩
  split; exact ⟨by show 0 ≤ 2 * a % 18446744073709551616 + _; split <;> omega, by show 2 * a % 18446744073709551616 + _ < _; split <;> omega⟩
  exact ⟨by show 0 ≤ a / 2 + _; split <;> omega, by show a / 2 + _ < _; split <;> omega⟩
theorem rstep_ok (op : Int) (hop : 1 ≤ op ∧ op ≤ 5) (a : Int) (ha : Wd a) (H : List Blk) : ACalls Tryz.prog 92 [I op, I 64, U a] H (fun e H' => e = .ret (.tup [U (rstepE op a).1, Bo (rstepE op a).2]) ∧ H' = H) := by
  refine acalls_tidy (acalls_of_awp Tryz.func92 rfl (by kernel_rfl) ?_)
  have cl := fun n H => rlow_ok n H
  have ct := fun H => rtop_ok a ha H
  have tm : a.tmod 2 = a % 2 := Int.tmod_eq_emod_of_nonneg ha.1
  have td : a.tdiv 2 = a / 2 := Int.tdiv_eq_ediv_of_nonneg ha.1
  have b0 : (a % 2 == 1) = bit0 a := rfl
  have w2 : IntKind.u64.wrap (a * 2) = 2 * a % 18446744073709551616 := by rw [IntKind.wrap_u64]; omega
  obtain ⟨h0, h1⟩ := ha
  have wq : IntKind.u64.wrap (a / 2) = a / 2 := by rw [IntKind.wrap_u64]; omega
  have wq1 : IntKind.u64.wrap (a / 2 + 9223372036854775808) = a / 2 + 9223372036854775808 := by rw [IntKind.wrap_u64]; omega
  have wl1 : IntKind.u64.wrap (2 * a % 18446744073709551616 + 1) = 2 * a % 18446744073709551616 + 1 := by rw [IntKind.wrap_u64]; omega
  have u63 : IntKind.u64.wrap 63 = 63 := by decide
  have p63 : IntKind.u64.wrap 9223372036854775808 = 9223372036854775808 := by decide
  obtain ⟨E, hE⟩ : ∃ E, E = rstepE op a := ⟨_, rfl⟩
  rw [← hE]
  unfold rstepE at hE
  generalize hiB a = t at *
  generalize bit0 a = l at *
  refine awp_cut (fun _ => false) (fun _ => none) (fun f M => M = H ∧ f 0 = I op ∧ f 1 = I 64 ∧ f 2 = U a) (by kernel_rfl) ?_ ?_
  · simp -dsimp
  rintro f M ⟨hM, f0, f1, f2⟩
  rw [hM]; clear hM M
  refine awp_cut (fun _ => false) (fun _ => none) (fun f M => M = H ∧ f 0 = I op ∧ f 1 = I 64 ∧ f 2 = U a ∧ f 8 = Bo t ∧ f 9 = Bo l) (by kernel_rfl) ?_ ?_
  · simp -dsimp [f0, f1, f2]
    refine acallsW_det (ct _) ?_
    simp -dsimp [f0, f1, f2, tm, b0]
  clear f0 f1 f2 f
  rintro f M ⟨hM, f0, f1, f2, f8, f9⟩
  rw [hM]; clear hM M
  refine awp_cut (fun _ => false) (fun _ => none) (fun f M => M = H ∧ f 0 = I op ∧ f 1 = I 64 ∧ f 2 = U a ∧ f 8 = Bo t ∧ f 9 = Bo l ∧ f 10 = U 0) (by kernel_rfl) ?_ ?_
  · simp -dsimp [f0, f1, f2, f8, f9]
  clear f0 f1 f2 f8 f9 f
  rintro f M ⟨hM, f0, f1, f2, f8, f9, f10⟩
  rw [hM]; clear hM M
  have leaf : ∀ v c, E = (v, c) → Tidy H (fun e H' => e = .ret (.tup [U E.1, Bo E.2]) ∧ H' = H) (.ret (.tup [U v, Bo c])) H := fun v c h => tidy_now rfl ⟨by rw [h], rfl⟩
  replace leaf := Hid.mk leaf
  refine awp_all (hn := fun _ => false) (od := fun _ => none) (by kernel_rfl) ?_
  have c5 : op = 1 ∨ op = 2 ∨ op = 3 ∨ op = 4 ∨ op = 5 := by omega
  rcases c5 with rfl | rfl | rfl | rfl | rfl <;> cases t <;> cases l
  all_goals
    simp -dsimp [f0, f1, f2, f8, f9, f10, w2, td, wq, wq1, wl1, u63, p63, i64_63, IntKind.bits]
    try (refine acallsW_det (cl _ _) ?_; simp -dsimp [f0, f1, f2, f8, f9, f10, w2, td, wq, wq1, wl1, u63, p63, i64_63, IntKind.bits])
    refine leaf.out _ _ ?_
    rw [hE]
    simp
end Go.Proofs
namespace Go.Proofs
open Go.Mu
def rit (op a : Int) : Nat → Int × Bool
  | 0 => (a, false)
  | n + 1 => rstepE op (rit op a n).1
theorem wd_rit (op : Int) {a : Int} (h : Wd a) : ∀ n, Wd (rit op a n).1
  | 0 => h
  | n + 1 => wd_rstep op (wd_rit op h n)
def rshC (op a : Int) (n : Nat) : Bool := if op = 4 then bit0 (rit op a n).1 else if op = 5 then hiB (rit op a n).1 else (rit op a n).2
def rshO (op a : Int) (n : Nat) : Bool :=
  if op = 4 then bit0 (rit op a n).1 != hiB (rit op a n).1 else if op = 5 then hiB (rit op a n).1 != hiB (2 * (rit op a n).1 % 18446744073709551616) else if op = 1 then (rit op a n).2 != hiB (rit op a n).1 else if op = 2 then hiB a else false
def rshF (op a : Int) (n : Nat) (g : Fl) : Fl := if op ≤ 3 then byF (rit op a n).1 ⟨rshC op a n, g.z, g.s, rshO op a n, g.p⟩ else ⟨rshC op a n, g.z, g.s, rshO op a n, g.p⟩
theorem rshift0_ok (op : Int) (hop : 1 ≤ op ∧ op ≤ 5) (a k : Int) (ha : Wd a) (hk : Wd k) (h0 : k % 64 = 0) (g : Fl) (H : List Blk) : ACalls Tryz.prog 49 [I op, I 64, U a, U k, .agg g.cells] H (fun e H' => e = .ret (.tup [U a, .agg g.cells]) ∧ H' = H) := by
  refine acalls_tidy (acalls_of_awp Tryz.func49 rfl (by kernel_rfl) ?_)
  have cl := fun n H => rlow_ok n H
  obtain ⟨gc, gz, gs, go, gp⟩ := g
  have t32 : k.tmod 32 = k % 32 := Int.tmod_eq_emod_of_nonneg hk.1
  have t64 : k.tmod 64 = k % 64 := Int.tmod_eq_emod_of_nonneg hk.1
  have w0 : IntKind.i64.wrap 0 = 0 := by decide
  refine awp_all (hn := fun _ => false) (od := fun _ => none) (by kernel_rfl) ?_
  simp -dsimp [t32, t64, h0, w0]
  refine acallsW_det (cl _ _) ?_
  simp -dsimp [t32, t64, h0, w0]
  exact tidy_same rfl ⟨rfl, rfl⟩
theorem rshift1_ok (op : Int) (hop : 1 ≤ op ∧ op ≤ 5) (a k : Int) (ha : Wd a) (hk : Wd k) (n : Nat) (hn : k % 64 = n) (hn0 : n ≠ 0) (g : Fl) (H : List Blk) : ACalls Tryz.prog 49 [I op, I 64, U a, U k, .agg g.cells] H (fun e H' => e = .ret (.tup [U (rit op a n).1, .agg (rshF op a n g).cells]) ∧ H' = H) := by
  refine acalls_tidy (acalls_of_awp Tryz.func49 rfl (by kernel_rfl) ?_)
  have cl := fun n H => rlow_ok n H
  have hn63 : n ≤ 63 := by omega
  obtain ⟨gc, gz, gs, go, gp⟩ := g
  have t32 : k.tmod 32 = k % 32 := Int.tmod_eq_emod_of_nonneg hk.1
  have t64 : k.tmod 64 = n := by rw [Int.tmod_eq_emod_of_nonneg hk.1, hn]
  have wn : IntKind.i64.wrap (n : Int) = n := by rw [IntKind.wrap_i64]; omega
  obtain ⟨NG, hNG⟩ : ∃ NG : Bool → Bool → List Blk, ∀ c o, NG c o = H ++ [.box 26 [Bo c, Bo gz, Bo gs, Bo o, Bo gp], .box 26 [Bo false, Bo false, Bo false, Bo false, Bo false]] := ⟨_, fun _ _ => rfl⟩
  have k9 : ∀ c o, (NG c o)[H.length]? = some (.box 26 [Bo c, Bo gz, Bo gs, Bo o, Bo gp]) := fun c o => by rw [hNG]; simp
  have k11 : ∀ c o, (NG c o)[H.length + 1]? = some (.box 26 [Bo false, Bo false, Bo false, Bo false, Bo false]) := fun c o => by rw [hNG]; simp
  have s9 : ∀ c o c' o', (NG c o).set H.length (.box 26 [Bo c', Bo gz, Bo gs, Bo o', Bo gp]) = NG c' o' := fun c o c' o' => by rw [hNG, hNG]; simp
  refine awp_cut (fun _ => false) (fun _ => none) (fun f M => M = NG gc go ∧ f 0 = I op ∧ f 1 = I 64 ∧ f 2 = U a ∧ f 3 = U k ∧ f 9 = .bp H.length 0 ∧ f 11 = .bp (H.length + 1) 0) (by kernel_rfl) ?_ ?_
  · simp -dsimp
    exact (hNG _ _).symm
  rintro f M ⟨hM, f0, f1, f2, f3, f9, f11⟩
  rw [hM]; clear hM M
  refine awp_cut (fun _ => false) (fun _ => none) (fun f M => M = NG gc go ∧ f 0 = I op ∧ f 1 = I 64 ∧ f 2 = U a ∧ f 3 = U k ∧ f 9 = .bp H.length 0 ∧ f 11 = .bp (H.length + 1) 0) (by kernel_rfl) ?_ ?_
  · simp -dsimp [f0, f1, f2, f3, f9, f11]
  clear f0 f1 f2 f3 f9 f11 f
  rintro f M ⟨hM, f0, f1, f2, f3, f9, f11⟩
  rw [hM]; clear hM M
  refine awp_cut (fun _ => false) (fun _ => none) (fun f M => M = NG gc go ∧ f 0 = I op ∧ f 1 = I 64 ∧ f 2 = U a ∧ f 9 = .bp H.length 0 ∧ f 11 = .bp (H.length + 1) 0 ∧ f 12 = I n) (by kernel_rfl) ?_ ?_
  · simp -dsimp [f0, f1, f2, f3, f9, f11, t64, wn]
  clear f0 f1 f2 f3 f9 f11 f
  rintro f M ⟨hM, f0, f1, f2, f9, f11, f12⟩
  rw [hM]; clear hM M
  refine awp_cut (fun _ => false) (fun _ => none) (fun f M => M = NG gc go ∧ f 0 = I op ∧ f 1 = I 64 ∧ f 2 = U a ∧ f 9 = .bp H.length 0 ∧ f 11 = .bp (H.length + 1) 0 ∧ f 12 = I n) (by kernel_rfl) ?_ ?_
  · simp -dsimp [f0, f1, f2, f9, f11, f12]
    refine acallsW_det (cl _ _) ?_
    simp -dsimp [f0, f1, f2, f9, f11, f12]
  clear f0 f1 f2 f9 f11 f12 f
  rintro f M ⟨hM, f0, f1, f2, f9, f11, f12⟩
  rw [hM]; clear hM M
  refine awp_cut (fun _ => false) (fun _ => none) (fun f M => M = NG gc go ∧ f 0 = I op ∧ f 1 = I 64 ∧ f 2 = U a ∧ f 9 = .bp H.length 0 ∧ f 11 = .bp (H.length + 1) 0 ∧ f 12 = I n) (by kernel_rfl) ?_ ?_
  · have nz : ((n : Int) == 0) = false := by simp [hn0]
    simp -dsimp [f0, f1, f2, f9, f11, f12, nz]
  clear f0 f1 f2 f9 f11 f12 f
  rintro f M ⟨hM, f0, f1, f2, f9, f11, f12⟩
  rw [hM]; clear hM M
  refine awp_cut (fun _ => false) (fun _ => none) (fun f M => M = NG gc go ∧ f 0 = I op ∧ f 1 = I 64 ∧ f 2 = U a ∧ f 9 = .bp H.length 0 ∧ f 11 = .bp (H.length + 1) 0 ∧ f 12 = I n ∧ f 13 = U a ∧ f 14 = Bo false) (by kernel_rfl) ?_ ?_
  · simp -dsimp [f0, f1, f2, f9, f11, f12]
  clear f0 f1 f2 f9 f11 f12 f
  rintro f M ⟨hM, f0, f1, f2, f9, f11, f12, f13, f14⟩
  rw [hM]; clear hM M
  refine awp_cut (fun _ => false) (fun _ => none) (fun f M => M = NG gc go ∧ f 0 = I op ∧ f 1 = I 64 ∧ f 2 = U a ∧ f 9 = .bp H.length 0 ∧ f 11 = .bp (H.length + 1) 0 ∧ f 12 = I n ∧ f 13 = U (rit op a n).1 ∧ f 14 = Bo (rit op a n).2) (by kernel_rfl) ?_ ?_
  · simp -dsimp [f0, f1, f2, f9, f11, f12, f13, f14]
    refine loop_rule (hn := fun _ => false) (od := fun _ => none) (fun (i : Nat) f M => M = NG gc go ∧ f 0 = I op ∧ f 1 = I 64 ∧ f 2 = U a ∧ f 9 = .bp H.length 0 ∧ f 11 = .bp (H.length + 1) 0 ∧ f 12 = I n ∧ f 13 = U (rit op a i).1 ∧ f 14 = Bo (rit op a i).2 ∧ f 15 = I i ∧ i ≤ n) (fun i => n - i) (by kernel_rfl) 0 (by simp [f0, f1, f2, f9, f11, f12, f13, f14, rit]) ?_
    clear f0 f1 f2 f9 f11 f12 f13 f14 f
    rintro i f M ⟨rfl, f0, f1, f2, f9, f11, f12, f13, f14, f15, hi⟩
    have cs := fun H => rstep_ok op hop (rit op a i).1 (wd_rit op ha i) H
    have e : rstepE op (rit op a i).1 = rit op a (i + 1) := rfl
    rw [e] at cs
    simp -dsimp [f0, f1, f2, f9, f11, f12, f13, f14, f15]
    refine condVW_introD (fun hlt => ?_) (fun hlt => ?_)
    · simp -dsimp [f0, f1, f2, f9, f11, f12, f13, f14, f15]
      refine acallsW_det (cs _) ?_
      simp -dsimp [f0, f1, f2, f9, f11, f12, f13, f14, f15]
      exact ⟨i + 1, by omega, rfl, rfl, wrapS (by omega), by omega⟩
    · have : i = n := by omega
      simp -dsimp [f0, f1, f2, f9, f11, f12, f13, f14, f15]
      rw [this]
      exact ⟨rfl, rfl⟩
  clear f0 f1 f2 f9 f11 f12 f13 f14 f
  rintro f M ⟨hM, f0, f1, f2, f9, f11, f12, f13, f14⟩
  rw [hM]; clear hM M
  obtain ⟨v, hv⟩ : ∃ v, v = (rit op a n).1 := ⟨_, rfl⟩
  obtain ⟨c, hc⟩ : ∃ c, c = (rit op a n).2 := ⟨_, rfl⟩
  have wv : Wd v := by rw [hv]; exact wd_rit op ha n
  rw [← hv] at f13
  rw [← hc] at f14
  obtain ⟨F, hF⟩ : ∃ F, F = rshF op a n ⟨gc, gz, gs, go, gp⟩ := ⟨_, rfl⟩
  rw [← hv, ← hF]
  unfold rshF rshC rshO at hF
  rw [← hv, ← hc] at hF
  have d64 : decide ((64 : Int) < n) = false := decide_eq_false (by omega)
  refine awp_cut (fun _ => false) (fun _ => none) (fun f M => M = NG c go ∧ f 0 = I op ∧ f 1 = I 64 ∧ f 2 = U a ∧ f 9 = .bp H.length 0 ∧ f 11 = .bp (H.length + 1) 0 ∧ f 12 = I n ∧ f 13 = U v) (by kernel_rfl) ?_ ?_
  · simp -dsimp [f0, f1, f2, f9, f11, f12, f13, f14, k9, s9]
  clear f0 f1 f2 f9 f11 f12 f13 f14 f
  rintro f M ⟨hM, f0, f1, f2, f9, f11, f12, f13⟩
  rw [hM]; clear hM M
  refine awp_cut (fun _ => false) (fun _ => none) (fun f M => M = NG c go ∧ f 0 = I op ∧ f 1 = I 64 ∧ f 2 = U a ∧ f 9 = .bp H.length 0 ∧ f 11 = .bp (H.length + 1) 0 ∧ f 12 = I n ∧ f 13 = U v) (by kernel_rfl) ?_ ?_
  · simp -dsimp [f0, f1, f2, f9, f11, f12, f13, d64]
  clear f0 f1 f2 f9 f11 f12 f13 f
  rintro f M ⟨hM, f0, f1, f2, f9, f11, f12, f13⟩
  rw [hM]; clear hM M
  refine awp_cut (fun _ => false) (fun _ => none) (fun f M => M = NG c go ∧ f 0 = I op ∧ f 1 = I 64 ∧ f 2 = U a ∧ f 9 = .bp H.length 0 ∧ f 11 = .bp (H.length + 1) 0 ∧ f 13 = U v) (by kernel_rfl) ?_ ?_
  · simp -dsimp [f0, f1, f2, f9, f11, f12, f13, d64]
  clear f0 f1 f2 f9 f11 f12 f13 f
  rintro f M ⟨hM, f0, f1, f2, f9, f11, f13⟩
  rw [hM]; clear hM M
  have ct := fun m (h : Wd m) H => rtop_ok m h H
  have nb := ne_bool2
  have tm : v.tmod 2 = v % 2 := Int.tmod_eq_emod_of_nonneg wv.1
  have b0 : (v % 2 == 1) = bit0 v := rfl
  have w2 : IntKind.u64.wrap (v * 2) = 2 * v % 18446744073709551616 := by rw [IntKind.wrap_u64]; omega
  have wd2 : Wd (2 * v % 18446744073709551616) := ⟨Int.emod_nonneg _ (by decide), Int.emod_lt_of_pos _ (by decide)⟩
  have fz : ∀ c o Z, ∃ X, (NG c o).set (H.length + 1) Z = X ∧ X[H.length + 1]? = some Z ∧ ∃ L, X = H ++ L := fun c o Z => ⟨_, rfl, by rw [List.getElem?_set_self (lt_of_get (k11 c o))], by rw [hNG, List.set_append_right _ _ (by omega)]; exact ⟨_, rfl⟩⟩
  obtain ⟨NX, hNX⟩ : ∃ NX : Bool → Bool → Blk → List Blk, ∀ c o Z, (NG c o).set (H.length + 1) Z = NX c o Z := ⟨_, fun _ _ _ => rfl⟩
  have kx : ∀ c o Z, (NX c o Z)[H.length + 1]? = some Z := fun c o Z => by rw [← hNX, List.getElem?_set_self (lt_of_get (k11 c o))]
  have px : ∀ c o Z, ∃ L, NX c o Z = H ++ L := fun c o Z => by rw [← hNX, hNG, List.set_append_right _ _ (by omega)]; exact ⟨_, rfl⟩
  have leaf : ∀ c o Z K, F = K → Tidy H (fun e H' => e = .ret (.tup [U v, .agg F.cells]) ∧ H' = H) (.ret (.tup [U v, .agg K.cells])) (NX c o Z) := fun c o Z K h => by
    obtain ⟨L, hL⟩ := px c o Z
    rw [hL, h]
    exact tidy_same rfl ⟨rfl, rfl⟩
  simp only [Fl.cells] at leaf
  replace leaf := Hid.mk leaf
  refine awp_all (hn := fun _ => false) (od := fun _ => none) (by kernel_rfl) ?_
  have c5 : op = 1 ∨ op = 2 ∨ op = 3 ∨ op = 4 ∨ op = 5 := by omega
  rcases c5 with rfl | rfl | rfl | rfl | rfl
  · skip
    simp -dsimp [f0, f1, f2, f9, f11, f13, k9, s9, k11, hNX, kx, nb, tm, b0, w2]
    refine callDW_intro (ct v wv _) ?_
    simp -dsimp [f0, f1, f2, f9, f11, f13, k9, s9, k11, hNX, kx, nb, tm, b0, w2]
    refine acallsW_det (rby_ok v wv ⟨c, gz, gs, c != hiB v, gp⟩ _) ?_
    simp -dsimp [f0, f1, f2, f9, f11, f13, k9, s9, k11, hNX, kx, nb, tm, b0, w2]
    exact leaf.out _ _ _ _ (by first | (rw [hF]; done) | (rw [hF]; rfl))
  · skip
    simp -dsimp [f0, f1, f2, f9, f11, f13, k9, s9, k11, hNX, kx, nb, tm, b0, w2]
    refine acallsW_det (ct a ha _) ?_
    simp -dsimp [f0, f1, f2, f9, f11, f13, k9, s9, k11, hNX, kx, nb, tm, b0, w2]
    refine acallsW_det (rby_ok v wv ⟨c, gz, gs, hiB a, gp⟩ _) ?_
    simp -dsimp [f0, f1, f2, f9, f11, f13, k9, s9, k11, hNX, kx, nb, tm, b0, w2]
    exact leaf.out _ _ _ _ (by first | (rw [hF]; done) | (rw [hF]; rfl))
  · skip
    simp -dsimp [f0, f1, f2, f9, f11, f13, k9, s9, k11, hNX, kx, nb, tm, b0, w2]
    refine acallsW_det (rby_ok v wv ⟨c, gz, gs, false, gp⟩ _) ?_
    simp -dsimp [f0, f1, f2, f9, f11, f13, k9, s9, k11, hNX, kx, nb, tm, b0, w2]
    exact leaf.out _ _ _ _ (by first | (rw [hF]; done) | (rw [hF]; rfl))
  · skip
    simp -dsimp [f0, f1, f2, f9, f11, f13, k9, s9, k11, hNX, kx, nb, tm, b0, w2]
    refine callDW_intro (ct v wv _) ?_
    simp -dsimp [f0, f1, f2, f9, f11, f13, k9, s9, k11, hNX, kx, nb, tm, b0, w2]
    exact leaf.out _ _ _ _ (by first | (rw [hF]; done) | (rw [hF]; rfl))
  · skip
    simp -dsimp [f0, f1, f2, f9, f11, f13, k9, s9, k11, hNX, kx, nb, tm, b0, w2]
    refine acallsW_det (ct v wv _) ?_
    simp -dsimp [f0, f1, f2, f9, f11, f13, k9, s9, k11, hNX, kx, nb, tm, b0, w2]
    refine acallsW_det (ct v wv _) ?_
    simp -dsimp [f0, f1, f2, f9, f11, f13, k9, s9, k11, hNX, kx, nb, tm, b0, w2]
    refine acallsW_det (cl _ _) ?_
    simp -dsimp [f0, f1, f2, f9, f11, f13, k9, s9, k11, hNX, kx, nb, tm, b0, w2]
    refine acallsW_det (ct _ wd2 _) ?_
    simp -dsimp [f0, f1, f2, f9, f11, f13, k9, s9, k11, hNX, kx, nb, tm, b0, w2]
    exact leaf.out _ _ _ _ (by first | (rw [hF]; done) | (rw [hF]; rfl))
end Go.Proofs
namespace Go.Proofs
open Go.Mu
theorem rit1 {a : Int} (h : Wd a) : ∀ n, (rit 1 a n).1 = shlU a n
  | 0 => by
    show a = IntKind.u64.wrap (a * 1)
    rw [Int.mul_one]; exact (wd_wrap h).symm
  | n + 1 => by
    show 2 * (rit 1 a n).1 % 18446744073709551616 = shlU a (n + 1)
    rw [rit1 h n]
    unfold shlU
    rw [IntKind.wrap_u64, IntKind.wrap_u64, Int.pow_succ, ← Int.mul_assoc]
    generalize a * 2 ^ n = x
    omega
theorem rit2 {a : Int} (h : Wd a) : ∀ n, (rit 2 a n).1 = shrU a n
  | 0 => by
    show a = a.fdiv 1
    rw [Int.fdiv_one]
  | n + 1 => by
    show (rit 2 a n).1 / 2 = shrU a (n + 1)
    rw [rit2 h n]
    unfold shrU
    rw [Int.fdiv_eq_ediv_of_nonneg _ (Int.pow_nonneg (by decide)), Int.fdiv_eq_ediv_of_nonneg _ (Int.pow_nonneg (by decide)), Int.pow_succ, Int.ediv_ediv_of_nonneg (Int.pow_nonneg (by decide))]
theorem rit3 {a : Int} (h : Wd a) : ∀ n, n ≤ 64 → (rit 3 a n).1 = a / 2 ^ n + (if hiB a = true then 18446744073709551616 - 2 ^ (64 - n) else 0)
  | 0, _ => by
    show a = a / 1 + _
    rw [Int.ediv_one]
    split <;> simp
  | n + 1, hn => by
    show (rit 3 a n).1 / 2 + (if hiB (rit 3 a n).1 = true then 9223372036854775808 else 0) = _
    rw [rit3 h n (by omega)]
    have e1 : a / 2 ^ (n + 1) = a / 2 ^ n / 2 := by rw [Int.pow_succ, Int.ediv_ediv_of_nonneg (Int.pow_nonneg (by decide))]
    have e2 : (2 : Int) ^ (64 - n) = 2 * 2 ^ (64 - (n + 1)) := by
      rw [show 64 - n = (64 - (n + 1)) + 1 by omega, Int.pow_succ, Int.mul_comm]
    have hq : (0 : Int) < 2 ^ (64 - (n + 1)) := Int.pow_pos (by decide)
    have hq2 : (2 : Int) ^ (64 - (n + 1)) ≤ 9223372036854775808 := by
      have : (2 : Nat) ^ (64 - (n + 1)) ≤ 2 ^ 63 := Nat.pow_le_pow_right (by decide) (by omega)
      have : ((2 ^ (64 - (n + 1)) : Nat) : Int) ≤ ((2 ^ 63 : Nat) : Int) := by exact_mod_cast this
      simpa using this
    have ha0 : 0 ≤ a / 2 ^ n := Int.ediv_nonneg h.1 (Int.pow_nonneg (by decide))
    have ha1 : a / 2 ^ n ≤ a := Int.ediv_le_self _ h.1
    have hpq : (2 : Int) ^ n * 2 ^ (64 - n) = 18446744073709551616 := by
      rw [← Int.pow_add, show n + (64 - n) = 64 by omega]; decide
    have hp : (0 : Int) < 2 ^ n := Int.pow_pos (by decide)
    rw [e1, e2]
    by_cases hh : hiB a = true
    · rw [if_pos hh, if_pos hh]
      have hge := of_decide_eq_true hh
      have lb : 2 ^ (64 - (n + 1)) ≤ a / 2 ^ n := by
        rw [Int.le_ediv_iff_mul_le hp]
        rw [e2] at hpq
        have : (2 : Int) ^ n * (2 * 2 ^ (64 - (n + 1))) = 2 * (2 ^ (64 - (n + 1)) * 2 ^ n) := by rw [Int.mul_left_comm, Int.mul_comm ((2 : Int) ^ n)]
        omega
      have t : hiB (a / 2 ^ n + (18446744073709551616 - 2 * 2 ^ (64 - (n + 1)))) = true := decide_eq_true (by omega)
      rw [if_pos t]
      generalize a / 2 ^ n = x at *
      generalize (2 : Int) ^ (64 - (n + 1)) = q at *
      omega
    · rw [if_neg hh, if_neg hh]
      have hlt : ¬ 9223372036854775808 ≤ a := fun e => hh (decide_eq_true e)
      have t : ¬ hiB (a / 2 ^ n + 0) = true := fun e => by have := of_decide_eq_true e; omega
      rw [if_neg t]
      omega
theorem pow_pair {n : Nat} (hn : n + 1 ≤ 64) : (2 : Int) ^ (64 - n) = 2 * 2 ^ (64 - (n + 1)) ∧ (2 : Int) ^ n * 2 ^ (64 - (n + 1)) = 9223372036854775808 := by
  constructor
  · rw [show 64 - n = (64 - (n + 1)) + 1 by omega, Int.pow_succ, Int.mul_comm]
  · rw [← Int.pow_add, show n + (64 - (n + 1)) = 63 by omega]; decide
theorem shl_mul {a : Int} {n m : Nat} (hnm : n + m = 64) : shlU a n = 2 ^ n * (a % 2 ^ m) := by
  unfold shlU
  rw [IntKind.wrap_u64, Int.mul_comm a, show (18446744073709551616 : Int) = 2 ^ n * 2 ^ m by rw [← Int.pow_add, hnm]; decide, Int.mul_emod_mul_of_pos _ _ (Int.pow_pos (by decide))]
theorem rit4 {a : Int} (h : Wd a) : ∀ n, n ≤ 64 → (rit 4 a n).1 = shlU a n + shrU a (64 - n)
  | 0, _ => by
    show a = IntKind.u64.wrap (a * 1) + a.fdiv 18446744073709551616
    rw [Int.mul_one, wd_wrap h, Int.fdiv_eq_ediv_of_nonneg _ (by decide), Int.ediv_eq_zero_of_lt h.1 h.2, Int.add_zero]
  | n + 1, hn => by
    show 2 * (rit 4 a n).1 % 18446744073709551616 + (if hiB (rit 4 a n).1 = true then 1 else 0) = _
    rw [rit4 h n (by omega)]
    obtain ⟨e2, e3⟩ := pow_pair hn
    rw [shl_mul (show n + (64 - n) = 64 by omega), shl_mul (show (n + 1) + (64 - (n + 1)) = 64 by omega)]
    unfold shrU
    have hq : (0 : Int) < 2 ^ (64 - (n + 1)) := Int.pow_pos (by decide)
    have hp : (0 : Int) < 2 ^ n := Int.pow_pos (by decide)
    rw [Int.fdiv_eq_ediv_of_nonneg _ (Int.pow_nonneg (by decide)), Int.fdiv_eq_ediv_of_nonneg _ (Int.pow_nonneg (by decide)), e2, mod_two hq, Int.pow_succ]
    have eR : a / (2 * 2 ^ (64 - (n + 1))) = a / 2 ^ (64 - (n + 1)) / 2 := by rw [Int.mul_comm, Int.ediv_ediv_of_nonneg (by omega)]
    rw [eR]
    have s0 := Int.emod_nonneg a (show (2 : Int) ^ (64 - (n + 1)) ≠ 0 by omega)
    have s1 := Int.emod_lt_of_pos a hq
    have rb : a / 2 ^ (64 - (n + 1)) < 2 * 2 ^ n := by
      rw [Int.ediv_lt_iff_lt_mul hq, Int.mul_assoc, e3]
      exact h.2
    have r0 : 0 ≤ a / 2 ^ (64 - (n + 1)) := Int.ediv_nonneg h.1 (by omega)
    generalize a / 2 ^ (64 - (n + 1)) = x at *
    generalize a % 2 ^ (64 - (n + 1)) = s at *
    have ps : 2 ^ n * s + 2 ^ n ≤ 9223372036854775808 ∧ 0 ≤ 2 ^ n * s := by
      refine ⟨?_, Int.mul_nonneg (by omega) s0⟩
      have : (2 : Int) ^ n * (s + 1) ≤ 2 ^ n * 2 ^ (64 - (n + 1)) := Int.mul_le_mul_of_nonneg_left (by omega) (by omega)
      rw [e3, Int.mul_add, Int.mul_one] at this
      exact this
    have em : (2 : Int) ^ n * (s + 2 ^ (64 - (n + 1)) * (x % 2)) = 2 ^ n * s + 9223372036854775808 * (x % 2) := by rw [Int.mul_add, ← Int.mul_assoc, e3]
    have em2 : (2 : Int) ^ n * 2 * s = 2 * (2 ^ n * s) := by rw [Int.mul_comm ((2 : Int) ^ n) 2, Int.mul_assoc]
    rw [em, em2]
    generalize (2 : Int) ^ n * s = L at *
    generalize (2 : Int) ^ n = P at *
    have hx : x % 2 = 0 ∨ x % 2 = 1 := by omega
    rcases hx with hx | hx <;> rw [hx]
    · have t : ¬ hiB (L + 9223372036854775808 * 0 + x / 2) = true := fun e => by have := of_decide_eq_true e; omega
      rw [if_neg t]; omega
    · have t : hiB (L + 9223372036854775808 * 1 + x / 2) = true := decide_eq_true (by omega)
      rw [if_pos t]; omega
theorem rit5 {a : Int} (h : Wd a) : ∀ n, n ≤ 64 → (rit 5 a n).1 = shlU a (64 - n) + shrU a n
  | 0, _ => by
    rw [shl_mul (show (64 - 0) + 0 = 64 by omega)]
    show a = 2 ^ 64 * (a % 1) + a.fdiv 1
    rw [Int.fdiv_one, Int.emod_one]; omega
  | n + 1, hn => by
    show (rit 5 a n).1 / 2 + (if bit0 (rit 5 a n).1 = true then 9223372036854775808 else 0) = _
    rw [rit5 h n (by omega)]
    obtain ⟨e2, e3⟩ := pow_pair hn
    rw [shl_mul (show (64 - n) + n = 64 by omega), shl_mul (show (64 - (n + 1)) + (n + 1) = 64 by omega)]
    unfold shrU
    have hp : (0 : Int) < 2 ^ n := Int.pow_pos (by decide)
    rw [Int.fdiv_eq_ediv_of_nonneg _ (Int.pow_nonneg (by decide)), Int.fdiv_eq_ediv_of_nonneg _ (Int.pow_nonneg (by decide)), e2, Int.pow_succ, Int.mul_comm ((2 : Int) ^ n) 2, mod_two hp]
    have eR : a / (2 * 2 ^ n) = a / 2 ^ n / 2 := by rw [Int.mul_comm, Int.ediv_ediv_of_nonneg (by omega)]
    rw [eR]
    generalize a / 2 ^ n = x at *
    generalize a % 2 ^ n = m at *
    have em : (2 : Int) ^ (64 - (n + 1)) * (m + 2 ^ n * (x % 2)) = 2 ^ (64 - (n + 1)) * m + 9223372036854775808 * (x % 2) := by rw [Int.mul_add, ← Int.mul_assoc, Int.mul_comm ((2 : Int) ^ (64 - (n + 1))) (2 ^ n), e3]
    rw [em, Int.mul_assoc]
    generalize (2 : Int) ^ (64 - (n + 1)) * m = y at *
    have hb : bit0 (2 * y + x) = (x % 2 == 1) := by
      unfold bit0
      rw [Bool.eq_iff_iff, beq_iff_eq, beq_iff_eq]; omega
    rw [hb]
    have hx : x % 2 = 0 ∨ x % 2 = 1 := by omega
    rcases hx with hx | hx <;> rw [hx]
    · rw [if_neg (by decide)]; omega
    · rw [if_pos (by decide)]; omega
end Go.Proofs
namespace Go.Proofs
open Go.Mu
theorem or_sum {n : Nat} {s r : Int} (hs : 0 ≤ s) (hr : 0 ≤ r) (hrn : r < 2 ^ n) (h : 2 ^ n * s + r < 18446744073709551616) : orU (2 ^ n * s) r = 2 ^ n * s + r := by
  obtain ⟨S, rfl⟩ := Int.eq_ofNat_of_zero_le hs
  obtain ⟨R, rfl⟩ := Int.eq_ofNat_of_zero_le hr
  have hp : (0 : Int) ≤ 2 ^ n * (S : Int) := Int.mul_nonneg (Int.pow_nonneg (by decide)) hs
  have e : (2 : Int) ^ n * (S : Int) = ((2 ^ n * S : Nat) : Int) := by push_cast; rfl
  have hrn' : R < 2 ^ n := by exact_mod_cast hrn
  unfold orU
  have b64 : (2 : Int) ^ IntKind.u64.bits = 18446744073709551616 := by decide
  rw [b64, e, Int.emod_eq_of_lt (by omega) (by omega), Int.emod_eq_of_lt (by omega) (by omega), Int.toNat_natCast, Int.toNat_natCast, ← Nat.two_pow_add_eq_or_of_lt hrn', IntKind.wrap_u64]
  omega
theorem rot_or {a : Int} (h : Wd a) {n m : Nat} (hnm : n + m = 64) : orU (shlU a n) (shrU a m) = shlU a n + shrU a m := by
  rw [shl_mul hnm]
  unfold shrU
  have hm : (0 : Int) < 2 ^ m := Int.pow_pos (by decide)
  have hn : (0 : Int) < 2 ^ n := Int.pow_pos (by decide)
  have hpq : (2 : Int) ^ n * 2 ^ m = 18446744073709551616 := by rw [← Int.pow_add, hnm]; decide
  rw [Int.fdiv_eq_ediv_of_nonneg _ (by omega)]
  have s0 := Int.emod_nonneg a (show (2 : Int) ^ m ≠ 0 by omega)
  have s1 := Int.emod_lt_of_pos a hm
  have r0 : 0 ≤ a / 2 ^ m := Int.ediv_nonneg h.1 (by omega)
  have r1 : a / 2 ^ m < 2 ^ n := by rw [Int.ediv_lt_iff_lt_mul hm, hpq]; exact h.2
  refine or_sum s0 r0 r1 ?_
  have : (2 : Int) ^ n * (a % 2 ^ m + 1) ≤ 2 ^ n * 2 ^ m := Int.mul_le_mul_of_nonneg_left (by omega) (by omega)
  rw [hpq, Int.mul_add, Int.mul_one] at this
  omega
theorem sar_rit {a : Int} (h : Wd a) {n : Nat} (hn : n ≤ 63) : sarU a n = (rit 3 a n).1 ∧ bit0 ((IntKind.i64.wrap a).fdiv (2 ^ n)) = bit0 (rit 3 a n).1 := by
  rw [rit3 h n (by omega)]
  have hp : (0 : Int) < 2 ^ n := Int.pow_pos (by decide)
  have hpq : (2 : Int) ^ n * 2 ^ (64 - n) = 18446744073709551616 := by rw [← Int.pow_add, show n + (64 - n) = 64 by omega]; decide
  have e2 : (2 : Int) ^ (64 - n) = 2 * 2 ^ (64 - (n + 1)) := (pow_pair (by omega)).1
  have q0 : (0 : Int) < 2 ^ (64 - n) := Int.pow_pos (by decide)
  have q1 : (2 : Int) ^ (64 - n) ≤ 18446744073709551616 := by
    have := Int.mul_le_mul_of_nonneg_right (show (1 : Int) ≤ 2 ^ n by omega) (show (0 : Int) ≤ 2 ^ (64 - n) by omega)
    rw [hpq, Int.one_mul] at this
    exact this
  have r0 : 0 ≤ a / 2 ^ n := Int.ediv_nonneg h.1 (by omega)
  have r1 : a / 2 ^ n < 2 ^ (64 - n) := by rw [Int.ediv_lt_iff_lt_mul hp, Int.mul_comm, hpq]; exact h.2
  unfold sarU
  rw [Int.fdiv_eq_ediv_of_nonneg _ (by omega)]
  have w : IntKind.i64.wrap a = if hiB a = true then a - 18446744073709551616 else a := by
    rw [IntKind.wrap_i64]
    obtain ⟨h0, h1⟩ := h
    by_cases hh : hiB a = true
    · rw [if_pos hh]; have := of_decide_eq_true hh; omega
    · rw [if_neg hh]
      have : ¬ 9223372036854775808 ≤ a := fun e => hh (decide_eq_true e)
      omega
  rw [w]
  by_cases hh : hiB a = true
  · rw [if_pos hh, if_pos hh]
    have e : (a - 18446744073709551616) / 2 ^ n = a / 2 ^ n - 2 ^ (64 - n) := by
      rw [← hpq, Int.sub_mul_ediv_left _ _ (by omega)]
    rw [e, IntKind.wrap_u64]
    generalize a / 2 ^ n = x at *
    refine ⟨by omega, ?_⟩
    unfold bit0
    rw [Bool.eq_iff_iff, beq_iff_eq, beq_iff_eq, e2]
    omega
  · rw [if_neg hh, if_neg hh, Int.add_zero, IntKind.wrap_u64]
    exact ⟨by omega, rfl⟩
theorem rit_shV {op a : Int} (hop : 1 ≤ op ∧ op ≤ 5) (h : Wd a) {n : Nat} (hn : n ≤ 63) : (rit op a n).1 = shV op a n := by
  have c5 : op = 1 ∨ op = 2 ∨ op = 3 ∨ op = 4 ∨ op = 5 := by omega
  rcases c5 with rfl | rfl | rfl | rfl | rfl
  · exact rit1 h n
  · exact rit2 h n
  · exact (sar_rit h hn).1.symm
  · rw [rit4 h n (by omega)]; exact (rot_or h (by omega)).symm
  · rw [rit5 h n (by omega)]; exact (rot_or h (by omega)).symm
theorem hi_bit62 {v : Int} (h : Wd v) : hiB (2 * v % 18446744073709551616) = bit62 v := by
  obtain ⟨h0, h1⟩ := h
  unfold hiB bit62
  rw [Bool.eq_iff_iff, decide_eq_true_eq, beq_iff_eq]
  omega
theorem rit_shC {op a : Int} (hop : 1 ≤ op ∧ op ≤ 5) (h : Wd a) {n : Nat} (hn : n ≤ 63) (hn0 : n ≠ 0) : rshC op a n = shC op a n := by
  have hv := rit_shV hop h hn
  unfold rshC
  rw [hv]
  obtain ⟨m, rfl⟩ : ∃ m, n = m + 1 := ⟨n - 1, by omega⟩
  have c5 : op = 1 ∨ op = 2 ∨ op = 3 ∨ op = 4 ∨ op = 5 := by omega
  rcases c5 with rfl | rfl | rfl | rfl | rfl
  · show hiB (rit 1 a m).1 = hiB (shlU a (m + 1 - 1))
    rw [rit1 h m]; rfl
  · show bit0 (rit 2 a m).1 = bit0 (shrU a (m + 1 - 1))
    rw [rit2 h m]; rfl
  · show bit0 (rit 3 a m).1 = bit0 ((IntKind.i64.wrap a).fdiv (2 ^ (m + 1 - 1)))
    exact (sar_rit h (by omega)).2.symm
  · rfl
  · rfl
theorem rit_shF {op a : Int} (hop : 1 ≤ op ∧ op ≤ 5) (h : Wd a) {n : Nat} (hn : n ≤ 63) (hn0 : n ≠ 0) (g : Fl) : rshF op a n g = shF op a n g := by
  have hv := rit_shV hop h hn
  have hc := rit_shC hop h hn hn0
  have ho : rshO op a n = shO op a n := by
    have wv : Wd (shV op a n) := by rw [← hv]; exact wd_rit op h n
    have hc' := hc
    unfold rshC at hc'
    unfold rshO shO
    rw [hv] at hc' ⊢
    have c5 : op = 1 ∨ op = 2 ∨ op = 3 ∨ op = 4 ∨ op = 5 := by omega
    rcases c5 with rfl | rfl | rfl | rfl | rfl
    · simp at hc' ⊢; rw [hc']
    · simp
    · simp
    · simp at hc' ⊢; rw [hc']
    · simp at hc' ⊢; rw [hc', hi_bit62 wv]
  unfold rshF shF
  rw [hv, hc, ho]
theorem rshift_ok (op : Int) (hop : 1 ≤ op ∧ op ≤ 5) (a k : Int) (ha : Wd a) (hk : Wd k) (g : Fl) (H : List Blk) : ACalls Tryz.prog 49 [I op, I 64, U a, U k, .agg g.cells] H (fun e H' => e = .ret (.tup [U (shiftV op a k), .agg (shiftF op a k g).cells]) ∧ H' = H) := by
  unfold shiftV shiftF
  by_cases h0 : mod6 k = 0
  · rw [if_pos h0, if_pos h0]
    unfold mod6 at h0
    exact rshift0_ok op hop a k ha hk (by omega) g H
  · rw [if_neg h0, if_neg h0]
    have hm : k % 64 = (mod6 k : Int) := by unfold mod6; omega
    have h63 : mod6 k ≤ 63 := by unfold mod6; omega
    have := rshift1_ok op hop a k ha hk (mod6 k) hm h0 g H
    rw [rit_shV hop ha h63, rit_shF hop ha h63 h0] at this
    exact this
end Go.Proofs
namespace Go.Proofs
open Go.Mu
def loS (b : List Int) (at_ : Nat) : Nat → Int
  | 0 => 0
  | n + 1 => loS b at_ n + 256 ^ n * bAt b (at_ + n)
theorem loS_rng {b : List Int} (h : BytesOk b) (at_ : Nat) : ∀ n, 0 ≤ loS b at_ n ∧ loS b at_ n < 256 ^ n
  | 0 => ⟨Int.le_refl _, show (0 : Int) < 1 by decide⟩
  | n + 1 => by
    have h1 := loS_rng h at_ n
    have h2 := bAt_rng h (at_ + n)
    show 0 ≤ loS b at_ n + 256 ^ n * bAt b (at_ + n) ∧ loS b at_ n + 256 ^ n * bAt b (at_ + n) < 256 ^ (n + 1)
    rw [Int.pow_succ]
    have p : (0 : Int) < 256 ^ n := Int.pow_pos (by decide)
    have m0 : 0 ≤ 256 ^ n * bAt b (at_ + n) := Int.mul_nonneg (by omega) h2.1
    have m1 : 256 ^ n * (bAt b (at_ + n) + 1) ≤ 256 ^ n * 256 := Int.mul_le_mul_of_nonneg_left (by omega) (by omega)
    rw [Int.mul_add, Int.mul_one] at m1
    omega
theorem rg_lo {b : List Int} (at_ : Nat) : ∀ j, j ≤ 8 → rgTo b at_ j * 256 ^ (8 - j) + loS b at_ (8 - j) = loS b at_ 8
  | 0, _ => by show 0 * _ + _ = _; rw [Int.zero_mul, Int.zero_add]
  | j + 1, hj => by
    rw [← rg_lo at_ j (by omega)]
    obtain ⟨m, hm⟩ : ∃ m, 8 - j = m + 1 := ⟨7 - j, by omega⟩
    have hm' : 8 - (j + 1) = m := by omega
    have h7 : 7 - j = m := by omega
    rw [hm, hm']
    show (rgTo b at_ j * 256 + bAt b (at_ + (7 - j))) * 256 ^ m + loS b at_ m = rgTo b at_ j * 256 ^ (m + 1) + (loS b at_ m + 256 ^ m * bAt b (at_ + m))
    rw [h7, Int.add_mul, Int.pow_succ, Int.mul_comm (bAt b (at_ + m)), Int.mul_assoc, Int.mul_comm 256]
    omega
theorem rg_all {b : List Int} (at_ : Nat) : rgTo b at_ 8 = loS b at_ 8 := by
  have := rg_lo (b := b) at_ 8 (Nat.le_refl _)
  rw [show 8 - 8 = 0 from rfl] at this
  have e : loS b at_ 0 = 0 := rfl
  rw [e, Int.pow_zero, Int.mul_one, Int.add_zero] at this
  exact this
theorem or64_eq (x y : Int) : or64 x y = orU y x := by
  unfold or64 orU
  have b64 : (2 : Int) ^ IntKind.u64.bits = 18446744073709551616 := by decide
  rw [BitVec.toNat_or, BitVec.toNat_ofInt, BitVec.toNat_ofInt, Nat.or_comm, b64]
  rfl
theorem getTo_lo {b : List Int} (h : BytesOk b) (at_ : Nat) : ∀ n, n ≤ 8 → getTo b at_ n = loS b at_ n
  | 0, _ => rfl
  | n + 1, hn => by
    show or64 (getTo b at_ n) (IntKind.u64.wrap (IntKind.u64.wrap (bAt b (at_ + n)) * 2 ^ (8 * n))) = loS b at_ n + 256 ^ n * bAt b (at_ + n)
    rw [getTo_lo h at_ n (by omega), or64_eq]
    have r := loS_rng h at_ n
    have q := bAt_rng h (at_ + n)
    have r2 := loS_rng h at_ (n + 1)
    have e : loS b at_ (n + 1) = loS b at_ n + 256 ^ n * bAt b (at_ + n) := rfl
    rw [e] at r2
    have e8 : (2 : Int) ^ (8 * n) = 256 ^ n := by rw [Int.pow_mul]; rfl
    have p8 : (256 : Int) ^ (n + 1) ≤ 18446744073709551616 := by
      have : (256 : Nat) ^ (n + 1) ≤ 256 ^ 8 := Nat.pow_le_pow_right (by decide) (by omega)
      have : ((256 ^ (n + 1) : Nat) : Int) ≤ ((256 ^ 8 : Nat) : Int) := by exact_mod_cast this
      simpa using this
    have m0 : 0 ≤ 256 ^ n * bAt b (at_ + n) := Int.mul_nonneg (Int.pow_nonneg (by decide)) q.1
    have w1 : IntKind.u64.wrap (bAt b (at_ + n)) = bAt b (at_ + n) := by rw [IntKind.wrap_u64]; omega
    have w2 : IntKind.u64.wrap (bAt b (at_ + n) * 256 ^ n) = 256 ^ n * bAt b (at_ + n) := by rw [Int.mul_comm, IntKind.wrap_u64]; omega
    rw [w1, e8, w2, ← e8, or_sum q.1 r.1 (by rw [e8]; exact r.2) (by rw [e8]; omega)]
    omega
theorem rget_get {b : List Int} (h : BytesOk b) (at_ : Nat) : rgTo b at_ 8 = getW b at_ := by rw [rg_all]; exact (getTo_lo h at_ 8 (Nat.le_refl _)).symm
end Go.Proofs
