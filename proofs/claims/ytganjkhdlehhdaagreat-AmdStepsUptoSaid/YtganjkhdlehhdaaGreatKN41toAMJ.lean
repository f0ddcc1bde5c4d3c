/- May made code be. -/
import Derived.Test.YtganjkhdlehhdaaGreatKN22toKN40
import Derived.Test.YtganjkhdlehhdaaGreatFwJmptoAMG
set_option linter.unusedVariables false
set_option linter.unusedSimpArgs false
set_option maxHeartbeats 4000000
set_option maxRecDepth 100000
namespace Go.Proofs.Lm
open Go.Mu
end Go.Proofs.Lm
namespace Go.Proofs
open Go.Mu
structure Nms where
  (bin shift cond dst src imm addr label : Bool)
abbrev Nms.cells (n : Nms) : List AV := [Bo n.bin, Bo n.shift, Bo n.cond, Bo n.dst, Bo n.src, Bo n.imm, Bo n.addr, Bo n.label]
def nmOf (op : Int) : Nms :=
  if op = 1 ∨ op = 11 ∨ op = 12 ∨ op = 15 then ⟨false, false, false, true, true, false, false, false⟩
  else if op = 2 ∨ op = 13 then ⟨false, false, false, true, false, true, false, false⟩
  else if op = 3 then ⟨false, false, false, true, false, false, true, false⟩
  else if op = 4 then ⟨false, false, false, false, true, false, true, false⟩
  else if op = 5 then ⟨true, false, false, true, true, false, false, false⟩
  else if op = 6 then ⟨true, false, false, true, false, true, false, false⟩
  else if op = 7 then ⟨false, true, false, true, false, false, false, false⟩
  else if op = 8 then ⟨false, true, false, true, false, true, false, false⟩
  else if op = 9 ∨ op = 10 then ⟨false, false, false, true, false, false, false, false⟩
  else if op = 14 then ⟨false, false, true, true, false, false, false, false⟩
  else if op = 16 then ⟨false, false, true, true, true, false, false, false⟩
  else if op = 17 ∨ op = 19 then ⟨false, false, false, false, false, false, false, true⟩
  else if op = 18 then ⟨false, false, true, false, false, false, false, true⟩
  else ⟨false, false, false, false, false, false, false, false⟩
theorem rof_ok (op : Int) (H : List Blk) : ACalls Tryz.prog 52 [I op] H (fun e H' => e = .ret (.agg (nmOf op).cells) ∧ H' = H) := by
  refine acalls_tidy (acalls_of_vc (hn := fun _ => false) (od := fun _ => none) Tryz.func52 rfl (by kernel_rfl) ?_)
  by_cases h : 1 ≤ op ∧ op ≤ 19
  · have : op = 1 ∨ op = 2 ∨ op = 3 ∨ op = 4 ∨ op = 5 ∨ op = 6 ∨ op = 7 ∨ op = 8 ∨ op = 9 ∨ op = 10 ∨ op = 11 ∨ op = 12 ∨ op = 13 ∨ op = 14 ∨ op = 15 ∨ op = 16 ∨ op = 17 ∨ op = 18 ∨ op = 19 := by omega
    rcases this with rfl | rfl | rfl | rfl | rfl | rfl | rfl | rfl | rfl | rfl | rfl | rfl | rfl | rfl | rfl | rfl | rfl | rfl | rfl
    all_goals simp -dsimp
    all_goals exact tidy_same rfl ⟨by simp [nmOf], rfl⟩
  · have e : ∀ k : Int, 1 ≤ k → k ≤ 19 → (op == k) = false := fun k h1 h2 => by simp; omega
    have hn : nmOf op = ⟨false, false, false, false, false, false, false, false⟩ := by
      unfold nmOf
      repeat rw [if_neg (by omega)]
    rw [hn]
    simp -dsimp [e 1 (by decide) (by decide), e 2 (by decide) (by decide), e 3 (by decide) (by decide), e 4 (by decide) (by decide), e 5 (by decide) (by decide), e 6 (by decide) (by decide), e 7 (by decide) (by decide), e 8 (by decide) (by decide), e 9 (by decide) (by decide), e 10 (by decide) (by decide), e 11 (by decide) (by decide), e 12 (by decide) (by decide), e 13 (by decide) (by decide), e 14 (by decide) (by decide), e 15 (by decide) (by decide), e 16 (by decide) (by decide), e 17 (by decide) (by decide), e 18 (by decide) (by decide), e 19 (by decide) (by decide)]
    exact tidy_same rfl ⟨rfl, rfl⟩
def rShort (x : Int) : Bool := decide (x < 2147483648) || decide (18446744071562067968 ≤ x)
theorem rshort19_ok (x : Int) (H : List Blk) : ACalls Tryz.prog 26 [U x] H (fun e H' => e = .ret (Bo (rShort x)) ∧ H' = H) := by
  refine acalls_tidy (acalls_of_vc (hn := fun _ => false) (od := fun _ => none) Tryz.func26 rfl (by kernel_rfl) ?_)
  simp -dsimp
  repeat' ((with_reducible first | refine And.intro ?_ ?_ | refine guardVW_introTD (fun _ => ?_) (fun _ => ?_) | refine guardVW_introFD (fun _ => ?_) (fun _ => ?_) | refine condVW_introD (fun _ => ?_) (fun _ => ?_) | refine guardVW_introTE (fun _ => ?_) (fun _ _ _ => ?_) | refine guardVW_introFE (fun _ => ?_) (fun _ _ _ => ?_) | refine condVW_introE (fun _ => ?_) (fun _ _ _ => ?_) | refine guardVW_introTNE (fun _ _ _ => ?_) (fun _ => ?_) | refine guardVW_introFNE (fun _ _ _ => ?_) (fun _ => ?_) | refine condVW_introNE (fun _ _ _ => ?_) (fun _ => ?_) | refine guardVW_introTB (fun _ => ?_) (fun _ => ?_) | refine guardVW_introFB (fun _ => ?_) (fun _ => ?_) | refine condVW_introB (fun _ => ?_) (fun _ => ?_) | refine guardVW_introT (fun _ => ?_) (fun _ => ?_) | refine guardVW_introF (fun _ => ?_) (fun _ => ?_) | refine condVW_intro (fun _ => ?_) (fun _ => ?_)) <;> simp -dsimp [*])
  all_goals exact tidy_now rfl ⟨by simp [rShort, *], rfl⟩
theorem short_eq {x : Int} (h : Wd x) : Lm.short x = rShort x := by
  obtain ⟨h0, h1⟩ := h
  unfold Lm.short rShort
  rw [IntKind.wrap_u64, IntKind.wrap_i64]
  have e : IntKind.i32.wrap x = (x + 2147483648) % 4294967296 - 2147483648 := IntKind.wrap_i32 x
  rw [e, Bool.eq_iff_iff, Bool.or_eq_true, decide_eq_true_eq, decide_eq_true_eq, beq_iff_eq]
  omega
def rAddr (base index : Int) (hb hi : Bool) (disp : Int) : Bool :=
  !(decide (base < 0) || decide (15 < base) || decide (index < 0) || decide (15 < index) || decide (disp < -2147483648) || decide (2147483647 < disp)) && ((hb || base == 0) && (hi && index != 4 || !hi && index == 0))
theorem rmayaddr_ok (base index : Int) (hb hi : Bool) (disp : Int) (H : List Blk) : ACalls Tryz.prog 54 [.agg [I base, I index, Bo hb, Bo hi, I disp]] H (fun e H' => e = .ret (Bo (rAddr base index hb hi disp)) ∧ H' = H) := by
  refine acalls_tidy (acalls_of_awp Tryz.func54 rfl (by kernel_rfl) ?_)
  obtain ⟨R, hR⟩ : ∃ R, R = rAddr base index hb hi disp := ⟨_, rfl⟩
  rw [← hR]
  unfold rAddr at hR
  replace hR := Hid.mk hR
  refine awp_cut (fun _ => false) (fun _ => none) (fun f M => M = H ++ [.box 54 [I base, I index, Bo hb, Bo hi, I disp]] ∧ f 1 = .bp H.length 0) (by kernel_rfl) ?_ ?_
  · simp -dsimp
  rintro f M ⟨hM, f1⟩
  rw [hM]
  clear hM M
  refine awp_cut (fun _ => false) (fun _ => none) (fun f M => M = H ++ [.box 54 [I base, I index, Bo hb, Bo hi, I disp]] ∧ f 1 = .bp H.length 0 ∧ ¬ base < 0 ∧ ¬ 15 < base ∧ ¬ index < 0 ∧ ¬ 15 < index ∧ ¬ disp < -2147483648 ∧ ¬ 2147483647 < disp) (by kernel_rfl) ?_ ?_
  · simp -dsimp [f1]
    repeat' ((with_reducible first | refine And.intro ?_ ?_ | refine guardVW_introTD (fun _ => ?_) (fun _ => ?_) | refine guardVW_introFD (fun _ => ?_) (fun _ => ?_) | refine condVW_introD (fun _ => ?_) (fun _ => ?_) | refine guardVW_introTE (fun _ => ?_) (fun _ _ _ => ?_) | refine guardVW_introFE (fun _ => ?_) (fun _ _ _ => ?_) | refine condVW_introE (fun _ => ?_) (fun _ _ _ => ?_) | refine guardVW_introTNE (fun _ _ _ => ?_) (fun _ => ?_) | refine guardVW_introFNE (fun _ _ _ => ?_) (fun _ => ?_) | refine condVW_introNE (fun _ _ _ => ?_) (fun _ => ?_) | refine guardVW_introTB (fun _ => ?_) (fun _ => ?_) | refine guardVW_introFB (fun _ => ?_) (fun _ => ?_) | refine condVW_introB (fun _ => ?_) (fun _ => ?_) | refine guardVW_introT (fun _ => ?_) (fun _ => ?_) | refine guardVW_introF (fun _ => ?_) (fun _ => ?_) | refine condVW_intro (fun _ => ?_) (fun _ => ?_)) <;> simp -dsimp [*, f1])
    all_goals first
      | (refine tidy_same rfl ⟨?_, rfl⟩; first | rfl | (rw [hR.out]; simp [*]))
      | (simp [*]; done)
      | omega
  clear f1 f
  rintro f M ⟨hM, f1, h1, h2, h3, h4, h5, h6⟩
  rw [hM]
  clear hM M
  refine awp_all (hn := fun _ => false) (od := fun _ => none) (by kernel_rfl) ?_
  cases hb <;> cases hi
  all_goals simp -dsimp [f1]
  all_goals repeat' ((with_reducible first | refine And.intro ?_ ?_ | refine guardVW_introTD (fun _ => ?_) (fun _ => ?_) | refine guardVW_introFD (fun _ => ?_) (fun _ => ?_) | refine condVW_introD (fun _ => ?_) (fun _ => ?_) | refine guardVW_introTE (fun _ => ?_) (fun _ _ _ => ?_) | refine guardVW_introFE (fun _ => ?_) (fun _ _ _ => ?_) | refine condVW_introE (fun _ => ?_) (fun _ _ _ => ?_) | refine guardVW_introTNE (fun _ _ _ => ?_) (fun _ => ?_) | refine guardVW_introFNE (fun _ _ _ => ?_) (fun _ => ?_) | refine condVW_introNE (fun _ _ _ => ?_) (fun _ => ?_) | refine guardVW_introTB (fun _ => ?_) (fun _ => ?_) | refine guardVW_introFB (fun _ => ?_) (fun _ => ?_) | refine condVW_introB (fun _ => ?_) (fun _ => ?_) | refine guardVW_introT (fun _ => ?_) (fun _ => ?_) | refine guardVW_introF (fun _ => ?_) (fun _ => ?_) | refine condVW_intro (fun _ => ?_) (fun _ => ?_)) <;> simp -dsimp [*, f1])
  all_goals refine tidy_same rfl ⟨?_, rfl⟩
  all_goals first
    | rfl
    | (rw [hR.out]; simp [*]; done)
    | (rw [hR.out]; trace_state; simp [*])
def rB (i : Amd) (n : Nms) : Bool := (!n.bin && i.bin != 0) || (n.bin && (decide (i.bin < 1) || decide (8 < i.bin))) || (!n.shift && i.shift != 0) || (n.shift && (decide (i.shift < 1) || decide (5 < i.shift)))
def rC (i : Amd) (n : Nms) : Bool := (!n.cond && i.cond != 0) || decide (i.cond < 0) || decide (15 < i.cond) || (!n.dst && i.dst != 0) || (!n.src && i.src != 0) || (!n.imm && i.imm != 0)
def zAddr (i : Amd) : Bool := i.base == 0 && (i.index == 0 && (!i.hasBase && (!i.hasIndex && i.disp == 0)))
def rD (i : Amd) (n : Nms) : Bool := (!n.addr && !zAddr i) || !rAddr i.base i.index i.hasBase i.hasIndex i.disp || (!n.label && i.label != 0) || decide (i.label < 0) || decide (1048576 < i.label)
def rMay1 (i : Amd) : Bool :=
  !(decide (i.op < 1) || decide (20 < i.op) || decide (i.dst < 0) || decide (15 < i.dst) || decide (i.src < 0) || decide (15 < i.src)) && (!rB i (nmOf i.op) && (!rC i (nmOf i.op) && (!rD i (nmOf i.op) && (if i.op = 6 ∨ i.op = 13 then rShort i.imm else if i.op = 8 then decide (i.imm < 64) else true))))
theorem nq_addr (a b : Int) (c d : Bool) (e : Int) : binE Tryz.prog .neq 54 (.agg [I a, I b, Bo c, Bo d, I e]) (.agg [I 0, I 0, Bo false, Bo false, I 0]) = some (Bo (!((a == 0) && ((b == 0) && ((c == false) && ((d == false) && ((e == 0) && true))))))) := by kernel_rfl
theorem rmayone_ok (i : Amd) (H : List Blk) : ACalls Tryz.prog 19 [.agg i.cells] H (fun e H' => e = .ret (Bo (rMay1 i)) ∧ H' = H) := by
  refine acalls_tidy (acalls_of_awp Tryz.func19 rfl (by kernel_rfl) ?_)
  obtain ⟨R, hR⟩ : ∃ R, R = rMay1 i := ⟨_, rfl⟩
  rw [← hR]
  unfold rMay1 at hR
  have co := rof_ok
  have ca := rmayaddr_ok
  have cs := rshort19_ok
  obtain ⟨n, hn⟩ : ∃ n, n = nmOf i.op := ⟨_, rfl⟩
  have co := fun H => co i.op H
  rw [← hn] at hR co
  clear hn
  obtain ⟨op, bin, shift, cond, dst, src, imm, base, index, hasBase, hasIndex, disp, label⟩ := i
  simp only [Lm.Amd.cells] at hR co ⊢
  obtain ⟨qB, hqB⟩ : ∃ q, q = rB ⟨op, bin, shift, cond, dst, src, imm, base, index, hasBase, hasIndex, disp, label⟩ n := ⟨_, rfl⟩
  obtain ⟨qC, hqC⟩ : ∃ q, q = rC ⟨op, bin, shift, cond, dst, src, imm, base, index, hasBase, hasIndex, disp, label⟩ n := ⟨_, rfl⟩
  obtain ⟨qD, hqD⟩ : ∃ q, q = rD ⟨op, bin, shift, cond, dst, src, imm, base, index, hasBase, hasIndex, disp, label⟩ n := ⟨_, rfl⟩
  rw [← hqB, ← hqC, ← hqD] at hR
  unfold rB at hqB
  unfold rC at hqC
  unfold rD at hqD
  simp only at hqB hqC hqD
  obtain ⟨nb, ns, nc, nd, nsr, ni, na, nl⟩ := n
  replace hR := Hid.mk hR
  replace hqB := Hid.mk hqB
  replace hqC := Hid.mk hqC
  replace hqD := Hid.mk hqD
  obtain ⟨AC, hAC⟩ : ∃ AC : List AV, AC = [I op, I bin, I shift, I cond, I dst, I src, U imm, I base, I index, Bo hasBase, Bo hasIndex, I disp, I label] := ⟨_, rfl⟩
  refine awp_cut (fun _ => false) (fun _ => none) (fun f M => M = H ++ [.box 56 [I op, I bin, I shift, I cond, I dst, I src, U imm, I base, I index, Bo hasBase, Bo hasIndex, I disp, I label]] ∧ f 1 = .bp H.length 0) (by kernel_rfl) ?_ ?_
  · simp -dsimp
  rintro f M ⟨hM, f1⟩
  rw [hM]
  clear hM M
  simp only [Nms.cells] at co
  refine awp_cut (fun _ => false) (fun _ => none) (fun f M => M = H ++ [.box 56 [I op, I bin, I shift, I cond, I dst, I src, U imm, I base, I index, Bo hasBase, Bo hasIndex, I disp, I label], .box 110 [Bo nb, Bo ns, Bo nc, Bo nd, Bo nsr, Bo ni, Bo na, Bo nl]] ∧ f 1 = .bp H.length 0 ∧ f 3 = .bp (H.length + 1) 0) (by kernel_rfl) ?_ ?_
  · simp -dsimp [f1]
    refine acallsW_det (co _) ?_
    simp -dsimp [f1]
  clear f1 f
  rintro f M ⟨hM, f1, f3⟩
  have g1 : M[H.length]? = some (.box 56 [I op, I bin, I shift, I cond, I dst, I src, U imm, I base, I index, Bo hasBase, Bo hasIndex, I disp, I label]) := by rw [hM]; simp
  have g3 : M[H.length + 1]? = some (.box 110 [Bo nb, Bo ns, Bo nc, Bo nd, Bo nsr, Bo ni, Bo na, Bo nl]) := by rw [hM]; simp
  have leaf : Hid (∀ c : Bool, c = R → Tidy H (fun e H' => e = AE.ret (Bo R) ∧ H' = H) (AE.ret (AV.v (Value.bool c))) M) := ⟨fun c hb => by rw [hM]; exact tidy_same rfl ⟨by rw [hb], rfl⟩⟩
  clear hM hAC co
  clear AC
  refine awp_cut (fun _ => false) (fun _ => none) (fun f M' => M' = M ∧ f 1 = .bp H.length 0 ∧ f 3 = .bp (H.length + 1) 0 ∧ ¬ op < 1 ∧ ¬ 20 < op ∧ ¬ dst < 0 ∧ ¬ 15 < dst ∧ ¬ src < 0 ∧ ¬ 15 < src) (by kernel_rfl) ?_ ?_
  · simp -dsimp [f1, f3, g1, g3]
    repeat' ((with_reducible first | refine And.intro ?_ ?_ | refine guardVW_introTD (fun _ => ?_) (fun _ => ?_) | refine guardVW_introFD (fun _ => ?_) (fun _ => ?_) | refine condVW_introD (fun _ => ?_) (fun _ => ?_) | refine guardVW_introTE (fun _ => ?_) (fun _ _ _ => ?_) | refine guardVW_introFE (fun _ => ?_) (fun _ _ _ => ?_) | refine condVW_introE (fun _ => ?_) (fun _ _ _ => ?_) | refine guardVW_introTNE (fun _ _ _ => ?_) (fun _ => ?_) | refine guardVW_introFNE (fun _ _ _ => ?_) (fun _ => ?_) | refine condVW_introNE (fun _ _ _ => ?_) (fun _ => ?_) | refine guardVW_introTB (fun _ => ?_) (fun _ => ?_) | refine guardVW_introFB (fun _ => ?_) (fun _ => ?_) | refine condVW_introB (fun _ => ?_) (fun _ => ?_) | refine guardVW_introT (fun _ => ?_) (fun _ => ?_) | refine guardVW_introF (fun _ => ?_) (fun _ => ?_) | refine condVW_intro (fun _ => ?_) (fun _ => ?_)) <;> simp -dsimp [*, f1, f3, g1, g3])
    all_goals first
      | (refine leaf.out _ ?_; rw [hR.out]; simp [*]; done)
      | omega
  clear f1 f3 f
  rintro f Mx ⟨hMx, f1, f3, h1, h2, h3, h4, h5, h6⟩
  rw [hMx]
  clear hMx Mx
  refine awp_cut (fun _ => false) (fun _ => none) (fun f M' => M' = M ∧ f 1 = .bp H.length 0 ∧ f 3 = .bp (H.length + 1) 0 ∧ qB = false) (by kernel_rfl) ?_ ?_
  · cases nb <;> cases ns
    all_goals simp -dsimp [f1, f3, g1, g3]
    all_goals repeat' ((with_reducible first | refine And.intro ?_ ?_ | refine guardVW_introTD (fun _ => ?_) (fun _ => ?_) | refine guardVW_introFD (fun _ => ?_) (fun _ => ?_) | refine condVW_introD (fun _ => ?_) (fun _ => ?_) | refine guardVW_introTE (fun _ => ?_) (fun _ _ _ => ?_) | refine guardVW_introFE (fun _ => ?_) (fun _ _ _ => ?_) | refine condVW_introE (fun _ => ?_) (fun _ _ _ => ?_) | refine guardVW_introTNE (fun _ _ _ => ?_) (fun _ => ?_) | refine guardVW_introFNE (fun _ _ _ => ?_) (fun _ => ?_) | refine condVW_introNE (fun _ _ _ => ?_) (fun _ => ?_) | refine guardVW_introTB (fun _ => ?_) (fun _ => ?_) | refine guardVW_introFB (fun _ => ?_) (fun _ => ?_) | refine condVW_introB (fun _ => ?_) (fun _ => ?_) | refine guardVW_introT (fun _ => ?_) (fun _ => ?_) | refine guardVW_introF (fun _ => ?_) (fun _ => ?_) | refine condVW_intro (fun _ => ?_) (fun _ => ?_)) <;> simp -dsimp [*, f1, f3, g1, g3])
    all_goals first
      | (refine leaf.out _ ?_; rw [hR.out, hqB.out]; simp [*]; done)
      | (rw [hqB.out]; simp [*]; done)
  clear f1 f3 f
  rintro f Mx ⟨hMx, f1, f3, hB⟩
  rw [hMx]
  clear hMx Mx
  refine awp_cut (fun _ => false) (fun _ => none) (fun f M' => M' = M ∧ f 1 = .bp H.length 0 ∧ f 3 = .bp (H.length + 1) 0 ∧ qC = false) (by kernel_rfl) ?_ ?_
  · cases nc <;> cases nd <;> cases nsr <;> cases ni
    all_goals simp -dsimp [f1, f3, g1, g3]
    all_goals repeat' ((with_reducible first | refine And.intro ?_ ?_ | refine guardVW_introTD (fun _ => ?_) (fun _ => ?_) | refine guardVW_introFD (fun _ => ?_) (fun _ => ?_) | refine condVW_introD (fun _ => ?_) (fun _ => ?_) | refine guardVW_introTE (fun _ => ?_) (fun _ _ _ => ?_) | refine guardVW_introFE (fun _ => ?_) (fun _ _ _ => ?_) | refine condVW_introE (fun _ => ?_) (fun _ _ _ => ?_) | refine guardVW_introTNE (fun _ _ _ => ?_) (fun _ => ?_) | refine guardVW_introFNE (fun _ _ _ => ?_) (fun _ => ?_) | refine condVW_introNE (fun _ _ _ => ?_) (fun _ => ?_) | refine guardVW_introTB (fun _ => ?_) (fun _ => ?_) | refine guardVW_introFB (fun _ => ?_) (fun _ => ?_) | refine condVW_introB (fun _ => ?_) (fun _ => ?_) | refine guardVW_introT (fun _ => ?_) (fun _ => ?_) | refine guardVW_introF (fun _ => ?_) (fun _ => ?_) | refine condVW_intro (fun _ => ?_) (fun _ => ?_)) <;> simp -dsimp [*, f1, f3, g1, g3])
    all_goals first
      | (refine leaf.out _ ?_; rw [hR.out, hqC.out]; simp [*]; done)
      | (rw [hqC.out]; simp [*]; done)
  clear f1 f3 f
  rintro f Mx ⟨hMx, f1, f3, hC⟩
  rw [hMx]
  clear hMx Mx
  have ca := ca base index hasBase hasIndex disp
  have nq := nq_addr base index hasBase hasIndex disp
  obtain ⟨ra, hra⟩ : ∃ ra, ra = rAddr base index hasBase hasIndex disp := ⟨_, rfl⟩
  obtain ⟨za, hza⟩ : ∃ za, za = zAddr ⟨op, bin, shift, cond, dst, src, imm, base, index, hasBase, hasIndex, disp, label⟩ := ⟨_, rfl⟩
  have hz2 : (!((base == 0) && ((index == 0) && ((hasBase == false) && ((hasIndex == false) && ((disp == 0) && true)))))) = !za := by
    rw [hza]
    unfold zAddr
    cases hasBase <;> cases hasIndex <;> simp
  rw [hz2] at nq
  have hqD' := hqD.out
  rw [← hra, ← hza] at hqD'
  rw [← hra] at ca
  replace hqD := Hid.mk hqD'
  clear hqD' hz2 hra hza
  refine awp_cut (fun _ => false) (fun _ => none) (fun f M' => M' = M ∧ f 1 = .bp H.length 0 ∧ f 3 = .bp (H.length + 1) 0 ∧ qD = false) (by kernel_rfl) ?_ ?_
  · cases na <;> cases nl <;> cases za <;> cases ra
    all_goals simp -dsimp [f1, f3, g1, g3, nq]
    all_goals repeat' ((with_reducible first | refine And.intro ?_ ?_ | refine guardVW_introTD (fun _ => ?_) (fun _ => ?_) | refine guardVW_introFD (fun _ => ?_) (fun _ => ?_) | refine condVW_introD (fun _ => ?_) (fun _ => ?_) | refine guardVW_introTE (fun _ => ?_) (fun _ _ _ => ?_) | refine guardVW_introFE (fun _ => ?_) (fun _ _ _ => ?_) | refine condVW_introE (fun _ => ?_) (fun _ _ _ => ?_) | refine guardVW_introTNE (fun _ _ _ => ?_) (fun _ => ?_) | refine guardVW_introFNE (fun _ _ _ => ?_) (fun _ => ?_) | refine condVW_introNE (fun _ _ _ => ?_) (fun _ => ?_) | refine guardVW_introTB (fun _ => ?_) (fun _ => ?_) | refine guardVW_introFB (fun _ => ?_) (fun _ => ?_) | refine condVW_introB (fun _ => ?_) (fun _ => ?_) | refine guardVW_introT (fun _ => ?_) (fun _ => ?_) | refine guardVW_introF (fun _ => ?_) (fun _ => ?_) | refine condVW_intro (fun _ => ?_) (fun _ => ?_) | refine acallsW_det (ca _) ?_ | refine callDW_intro (ca _) ?_) <;> simp -dsimp [*, f1, f3, g1, g3, nq])
    all_goals first
      | (refine leaf.out _ ?_; rw [hR.out, hqD.out]; simp [*]; done)
      | (rw [hqD.out]; simp [*]; done)
  clear f1 f3 f
  rintro f Mx ⟨hMx, f1, f3, hD⟩
  rw [hMx]
  clear hMx Mx
  have cs := fun H => cs imm H
  refine awp_all (hn := fun _ => false) (od := fun _ => none) (by kernel_rfl) ?_
  simp -dsimp [f1, g1]
  repeat' ((with_reducible first | refine And.intro ?_ ?_ | refine guardVW_introTD (fun _ => ?_) (fun _ => ?_) | refine guardVW_introFD (fun _ => ?_) (fun _ => ?_) | refine condVW_introD (fun _ => ?_) (fun _ => ?_) | refine guardVW_introTE (fun _ => ?_) (fun _ _ _ => ?_) | refine guardVW_introFE (fun _ => ?_) (fun _ _ _ => ?_) | refine condVW_introE (fun _ => ?_) (fun _ _ _ => ?_) | refine guardVW_introTNE (fun _ _ _ => ?_) (fun _ => ?_) | refine guardVW_introFNE (fun _ _ _ => ?_) (fun _ => ?_) | refine condVW_introNE (fun _ _ _ => ?_) (fun _ => ?_) | refine guardVW_introTB (fun _ => ?_) (fun _ => ?_) | refine guardVW_introFB (fun _ => ?_) (fun _ => ?_) | refine condVW_introB (fun _ => ?_) (fun _ => ?_) | refine guardVW_introT (fun _ => ?_) (fun _ => ?_) | refine guardVW_introF (fun _ => ?_) (fun _ => ?_) | refine condVW_intro (fun _ => ?_) (fun _ => ?_) | refine acallsW_det (cs _) ?_ | refine callDW_intro (cs _) ?_) <;> simp -dsimp [*, f1, g1])
  all_goals (refine leaf.out _ ?_; rw [hR.out]; simp [*])
end Go.Proofs
namespace Go.Proofs
open Go.Mu
theorem rMay1_eq (i : Amd) (h : Wd i.imm) (hd : -9223372036854775808 ≤ i.disp ∧ i.disp ≤ 9223372036854775807) : rMay1 i = Lm.mayOne i := by
  have hs := short_eq h
  obtain ⟨op, bin, shift, cond, dst, src, imm, base, index, hasBase, hasIndex, disp, label⟩ := i
  simp only at hs hd
  have hsd : Lm.short (IntKind.u64.wrap disp) = (decide (-2147483648 ≤ disp) && decide (disp ≤ 2147483647)) := by
    unfold Lm.short
    rw [IntKind.wrap_u64, IntKind.wrap_u64, IntKind.wrap_i64, IntKind.wrap_i32, Bool.eq_iff_iff, beq_iff_eq, Bool.and_eq_true, decide_eq_true_eq, decide_eq_true_eq]
    omega
  have hra : rAddr base index hasBase hasIndex disp = Lm.mayAddr base index hasBase hasIndex disp := by
    unfold Lm.mayAddr rAddr Lm.isReg
    rw [hsd, Bool.eq_iff_iff]
    cases hasBase <;> cases hasIndex <;> simp <;> omega
  have h0 : Lm.mayAddr 0 0 false false 0 = true := by decide
  by_cases hop : 1 ≤ op ∧ op ≤ 20
  · have : op = 1 ∨ op = 2 ∨ op = 3 ∨ op = 4 ∨ op = 5 ∨ op = 6 ∨ op = 7 ∨ op = 8 ∨ op = 9 ∨ op = 10 ∨ op = 11 ∨ op = 12 ∨ op = 13 ∨ op = 14 ∨ op = 15 ∨ op = 16 ∨ op = 17 ∨ op = 18 ∨ op = 19 ∨ op = 20 := by omega
    rw [Bool.eq_iff_iff]
    unfold rMay1 rB rC rD Lm.mayOne zAddr
    rw [hra]
    generalize Lm.mayAddr base index hasBase hasIndex disp = ma at *
    rw [hs]
    generalize rShort imm = rs at *
    clear hs hsd hra h hd
    rcases this with rfl | rfl | rfl | rfl | rfl | rfl | rfl | rfl | rfl | rfl | rfl | rfl | rfl | rfl | rfl | rfl | rfl | rfl | rfl | rfl
    all_goals simp [nmOf, Lm.partsT, List.lookup_cons, Lm.stripA, Lm.bitP, Lm.isReg, IntKind.wrap, IntKind.bits, IntKind.signed]
    all_goals cases hasBase <;> cases hasIndex <;> cases ma <;> cases rs <;> simp <;> omega
  · have e1 : rMay1 ⟨op, bin, shift, cond, dst, src, imm, base, index, hasBase, hasIndex, disp, label⟩ = false := by
      unfold rMay1
      have : (decide (op < 1) || decide (20 < op)) = true := by simp; omega
      simp only [this, Bool.true_or, Bool.not_true, Bool.false_and]
    have e2 : Lm.mayOne ⟨op, bin, shift, cond, dst, src, imm, base, index, hasBase, hasIndex, disp, label⟩ = false := by
      unfold Lm.mayOne
      cases hl : Lm.partsT.lookup op with
      | none => rfl
      | some p =>
        exfalso
        have hm := Lm.lookup_mem hl
        simp only [Lm.partsT, List.mem_cons, Prod.mk.injEq, List.not_mem_nil, or_false] at hm
        omega
    rw [e1, e2]
end Go.Proofs
