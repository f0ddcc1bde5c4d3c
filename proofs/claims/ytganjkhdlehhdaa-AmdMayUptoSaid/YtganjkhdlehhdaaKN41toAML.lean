/- May made code be. -/
import Derived.Test.YtganjkhdlehhdaaKN22toKN40
import Derived.Test.YtganjkhdlehhdaaFwJmptoAMG
set_option linter.unusedVariables false
set_option linter.unusedSimpArgs false
set_option maxHeartbeats 4000000
set_option maxRecDepth 100000
namespace Go.Proofs.Lm
open Go.Mu
theorem mayCode_ok (l : List Amd) (hl : l.length ≤ 2^40) (H : List Blk) : ACalls Try.prog 7 [Amd.sl l] H (fun e H' => e = .ret (Bo (mayA l)) ∧ H' = H) := by
  refine acalls_tidy (acalls_of_vc (hn := fun _ => false) (od := fun _ => none) Try.func7 rfl (by kernel_rfl) ?_)
  simp -dsimp
  refine acallsW_of (open_ok l hl _) (fun e H' hq => ?_)
  obtain ⟨t, C, rfl, rfl, -⟩ := hq
  simp -dsimp
  exact tidy_same rfl ⟨rfl, rfl⟩
end Go.Proofs.Lm
namespace Go.Proofs
open Go.Mu
structure Nms where
  (bin shift cond dst src imm addr label : Bool)
abbrev Nms.cells (n : Nms) : List AV := [Bo n.bin, Bo n.shift, Bo n.cond, Bo n.dst, Bo n.src, Bo n.imm, Bo n.addr, Bo n.label]
def nmOf (op : Int) : Nms :=
  if op = 1 ∨ op = 11 ∨ op = 12 ∨ op = 15 then ⟨false, false, false, true, true, false, false, false⟩
  else if op = 2 ∨ op = 13 then ⟨false, false, false, true, false, true, false, false⟩
  else if op = 3 then ⟨false, false, false, true, false, false, true, false⟩
  else if op = 4 then ⟨false, false, false, false, true, false, true, false⟩
  else if op = 5 then ⟨true, false, false, true, true, false, false, false⟩
  else if op = 6 then ⟨true, false, false, true, false, true, false, false⟩
  else if op = 7 then ⟨false, true, false, true, false, false, false, false⟩
  else if op = 8 then ⟨false, true, false, true, false, true, false, false⟩
  else if op = 9 ∨ op = 10 then ⟨false, false, false, true, false, false, false, false⟩
  else if op = 14 then ⟨false, false, true, true, false, false, false, false⟩
  else if op = 16 then ⟨false, false, true, true, true, false, false, false⟩
  else if op = 17 ∨ op = 19 then ⟨false, false, false, false, false, false, false, true⟩
  else if op = 18 then ⟨false, false, true, false, false, false, false, true⟩
  else ⟨false, false, false, false, false, false, false, false⟩
theorem rof_ok (op : Int) (H : List Blk) : ACalls Try.prog 30 [I op] H (fun e H' => e = .ret (.agg (nmOf op).cells) ∧ H' = H) := by
  refine acalls_tidy (acalls_of_vc (hn := fun _ => false) (od := fun _ => none) Try.func30 rfl (by kernel_rfl) ?_)
  by_cases h : 1 ≤ op ∧ op ≤ 19
  · have : op = 1 ∨ op = 2 ∨ op = 3 ∨ op = 4 ∨ op = 5 ∨ op = 6 ∨ op = 7 ∨ op = 8 ∨ op = 9 ∨ op = 10 ∨ op = 11 ∨ op = 12 ∨ op = 13 ∨ op = 14 ∨ op = 15 ∨ op = 16 ∨ op = 17 ∨ op = 18 ∨ op = 19 := by omega
    rcases this with rfl | rfl | rfl | rfl | rfl | rfl | rfl | rfl | rfl | rfl | rfl | rfl | rfl | rfl | rfl | rfl | rfl | rfl | rfl
    all_goals simp -dsimp
    all_goals exact tidy_same rfl ⟨by simp [nmOf], rfl⟩
  · have e : ∀ k : Int, 1 ≤ k → k ≤ 19 → (op == k) = false := fun k h1 h2 => by simp; omega
    have hn : nmOf op = ⟨false, false, false, false, false, false, false, false⟩ := by
      unfold nmOf
      repeat rw [if_neg (by omega)]
    rw [hn]
    simp -dsimp [e 1 (by decide) (by decide), e 2 (by decide) (by decide), e 3 (by decide) (by decide), e 4 (by decide) (by decide), e 5 (by decide) (by decide), e 6 (by decide) (by decide), e 7 (by decide) (by decide), e 8 (by decide) (by decide), e 9 (by decide) (by decide), e 10 (by decide) (by decide), e 11 (by decide) (by decide), e 12 (by decide) (by decide), e 13 (by decide) (by decide), e 14 (by decide) (by decide), e 15 (by decide) (by decide), e 16 (by decide) (by decide), e 17 (by decide) (by decide), e 18 (by decide) (by decide), e 19 (by decide) (by decide)]
    exact tidy_same rfl ⟨rfl, rfl⟩
def rShort (x : Int) : Bool := decide (x < 2147483648) || decide (18446744071562067968 ≤ x)
theorem rshort19_ok (x : Int) (H : List Blk) : ACalls Try.prog 32 [U x] H (fun e H' => e = .ret (Bo (rShort x)) ∧ H' = H) := by
  refine acalls_tidy (acalls_of_vc (hn := fun _ => false) (od := fun _ => none) Try.func32 rfl (by kernel_rfl) ?_)
  simp -dsimp
  repeat' ((with_reducible first | refine And.intro ?_ ?_ | refine guardVW_introTD (fun _ => ?_) (fun _ => ?_) | refine guardVW_introFD (fun _ => ?_) (fun _ => ?_) | refine condVW_introD (fun _ => ?_) (fun _ => ?_) | refine guardVW_introTE (fun _ => ?_) (fun _ _ _ => ?_) | refine guardVW_introFE (fun _ => ?_) (fun _ _ _ => ?_) | refine condVW_introE (fun _ => ?_) (fun _ _ _ => ?_) | refine guardVW_introTNE (fun _ _ _ => ?_) (fun _ => ?_) | refine guardVW_introFNE (fun _ _ _ => ?_) (fun _ => ?_) | refine condVW_introNE (fun _ _ _ => ?_) (fun _ => ?_) | refine guardVW_introTB (fun _ => ?_) (fun _ => ?_) | refine guardVW_introFB (fun _ => ?_) (fun _ => ?_) | refine condVW_introB (fun _ => ?_) (fun _ => ?_) | refine guardVW_introT (fun _ => ?_) (fun _ => ?_) | refine guardVW_introF (fun _ => ?_) (fun _ => ?_) | refine condVW_intro (fun _ => ?_) (fun _ => ?_)) <;> simp -dsimp [*])
  all_goals exact tidy_now rfl ⟨by simp [rShort, *], rfl⟩
theorem short_eq {x : Int} (h : Wd x) : Lm.short x = rShort x := by
  obtain ⟨h0, h1⟩ := h
  unfold Lm.short rShort
  rw [IntKind.wrap_u64, IntKind.wrap_i64]
  have e : IntKind.i32.wrap x = (x + 2147483648) % 4294967296 - 2147483648 := IntKind.wrap_i32 x
  rw [e, Bool.eq_iff_iff, Bool.or_eq_true, decide_eq_true_eq, decide_eq_true_eq, beq_iff_eq]
  omega
def rAddr (base index : Int) (hb hi : Bool) (disp : Int) : Bool :=
  !(decide (base < 0) || decide (15 < base) || decide (index < 0) || decide (15 < index) || decide (disp < -2147483648) || decide (2147483647 < disp)) && ((hb || base == 0) && (hi && index != 4 || !hi && index == 0))
theorem rmayaddr_ok (base index : Int) (hb hi : Bool) (disp : Int) (H : List Blk) : ACalls Try.prog 31 [.agg [I base, I index, Bo hb, Bo hi, I disp]] H (fun e H' => e = .ret (Bo (rAddr base index hb hi disp)) ∧ H' = H) := by
  refine acalls_tidy (acalls_of_awp Try.func31 rfl (by kernel_rfl) ?_)
  obtain ⟨R, hR⟩ : ∃ R, R = rAddr base index hb hi disp := ⟨_, rfl⟩
  rw [← hR]
  unfold rAddr at hR
  replace hR := Hid.mk hR
  refine awp_cut (fun _ => false) (fun _ => none) (fun f M => M = H ++ [.box 51 [I base, I index, Bo hb, Bo hi, I disp]] ∧ f 1 = .bp H.length 0) (by kernel_rfl) ?_ ?_
  · simp -dsimp
  rintro f M ⟨hM, f1⟩
  rw [hM]
  clear hM M
  refine awp_cut (fun _ => false) (fun _ => none) (fun f M => M = H ++ [.box 51 [I base, I index, Bo hb, Bo hi, I disp]] ∧ f 1 = .bp H.length 0 ∧ ¬ base < 0 ∧ ¬ 15 < base ∧ ¬ index < 0 ∧ ¬ 15 < index ∧ ¬ disp < -2147483648 ∧ ¬ 2147483647 < disp) (by kernel_rfl) ?_ ?_
  · simp -dsimp [f1]
    repeat' ((with_reducible first | refine And.intro ?_ ?_ | refine guardVW_introTD (fun _ => ?_) (fun _ => ?_) | refine guardVW_introFD (fun _ => ?_) (fun _ => ?_) | refine condVW_introD (fun _ => ?_) (fun _ => ?_) | refine guardVW_introTE (fun _ => ?_) (fun _ _ _ => ?_) | refine guardVW_introFE (fun _ => ?_) (fun _ _ _ => ?_) | refine condVW_introE (fun _ => ?_) (fun _ _ _ => ?_) | refine guardVW_introTNE (fun _ _ _ => ?_) (fun _ => ?_) | refine guardVW_introFNE (fun _ _ _ => ?_) (fun _ => ?_) | refine condVW_introNE (fun _ _ _ => ?_) (fun _ => ?_) | refine guardVW_introTB (fun _ => ?_) (fun _ => ?_) | refine guardVW_introFB (fun _ => ?_) (fun _ => ?_) | refine condVW_introB (fun _ => ?_) (fun _ => ?_) | refine guardVW_introT (fun _ => ?_) (fun _ => ?_) | refine guardVW_introF (fun _ => ?_) (fun _ => ?_) | refine condVW_intro (fun _ => ?_) (fun _ => ?_)) <;> simp -dsimp [*, f1])
    all_goals first
      | (refine tidy_same rfl ⟨?_, rfl⟩; first | rfl | (rw [hR.out]; simp [*]))
      | (simp [*]; done)
      | omega
  clear f1 f
  rintro f M ⟨hM, f1, h1, h2, h3, h4, h5, h6⟩
  rw [hM]
  clear hM M
  refine awp_all (hn := fun _ => false) (od := fun _ => none) (by kernel_rfl) ?_
  cases hb <;> cases hi
  all_goals simp -dsimp [f1]
  all_goals repeat' ((with_reducible first | refine And.intro ?_ ?_ | refine guardVW_introTD (fun _ => ?_) (fun _ => ?_) | refine guardVW_introFD (fun _ => ?_) (fun _ => ?_) | refine condVW_introD (fun _ => ?_) (fun _ => ?_) | refine guardVW_introTE (fun _ => ?_) (fun _ _ _ => ?_) | refine guardVW_introFE (fun _ => ?_) (fun _ _ _ => ?_) | refine condVW_introE (fun _ => ?_) (fun _ _ _ => ?_) | refine guardVW_introTNE (fun _ _ _ => ?_) (fun _ => ?_) | refine guardVW_introFNE (fun _ _ _ => ?_) (fun _ => ?_) | refine condVW_introNE (fun _ _ _ => ?_) (fun _ => ?_) | refine guardVW_introTB (fun _ => ?_) (fun _ => ?_) | refine guardVW_introFB (fun _ => ?_) (fun _ => ?_) | refine condVW_introB (fun _ => ?_) (fun _ => ?_) | refine guardVW_introT (fun _ => ?_) (fun _ => ?_) | refine guardVW_introF (fun _ => ?_) (fun _ => ?_) | refine condVW_intro (fun _ => ?_) (fun _ => ?_)) <;> simp -dsimp [*, f1])
  all_goals refine tidy_same rfl ⟨?_, rfl⟩
  all_goals first
    | rfl
    | (rw [hR.out]; simp [*]; done)
    | (rw [hR.out]; trace_state; simp [*])
def rB (i : Amd) (n : Nms) : Bool := (!n.bin && i.bin != 0) || (n.bin && (decide (i.bin < 1) || decide (8 < i.bin))) || (!n.shift && i.shift != 0) || (n.shift && (decide (i.shift < 1) || decide (5 < i.shift)))
def rC (i : Amd) (n : Nms) : Bool := (!n.cond && i.cond != 0) || decide (i.cond < 0) || decide (15 < i.cond) || (!n.dst && i.dst != 0) || (!n.src && i.src != 0) || (!n.imm && i.imm != 0)
def zAddr (i : Amd) : Bool := i.base == 0 && (i.index == 0 && (!i.hasBase && (!i.hasIndex && i.disp == 0)))
def rD (i : Amd) (n : Nms) : Bool := (!n.addr && !zAddr i) || !rAddr i.base i.index i.hasBase i.hasIndex i.disp || (!n.label && i.label != 0) || decide (i.label < 0) || decide (1048576 < i.label)
def rMay1 (i : Amd) : Bool :=
  !(decide (i.op < 1) || decide (20 < i.op) || decide (i.dst < 0) || decide (15 < i.dst) || decide (i.src < 0) || decide (15 < i.src)) && (!rB i (nmOf i.op) && (!rC i (nmOf i.op) && (!rD i (nmOf i.op) && (if i.op = 6 ∨ i.op = 13 then rShort i.imm else if i.op = 8 then decide (i.imm < 64) else true))))
theorem nq_addr (a b : Int) (c d : Bool) (e : Int) : binE Try.prog .neq 51 (.agg [I a, I b, Bo c, Bo d, I e]) (.agg [I 0, I 0, Bo false, Bo false, I 0]) = some (Bo (!((a == 0) && ((b == 0) && ((c == false) && ((d == false) && ((e == 0) && true))))))) := by kernel_rfl
theorem rmayone_ok (i : Amd) (H : List Blk) : ACalls Try.prog 18 [.agg i.cells] H (fun e H' => e = .ret (Bo (rMay1 i)) ∧ H' = H) := by
  refine acalls_tidy (acalls_of_awp Try.func18 rfl (by kernel_rfl) ?_)
  obtain ⟨R, hR⟩ : ∃ R, R = rMay1 i := ⟨_, rfl⟩
  rw [← hR]
  unfold rMay1 at hR
  have co := rof_ok
  have ca := rmayaddr_ok
  have cs := rshort19_ok
  obtain ⟨n, hn⟩ : ∃ n, n = nmOf i.op := ⟨_, rfl⟩
  have co := fun H => co i.op H
  rw [← hn] at hR co
  clear hn
  obtain ⟨op, bin, shift, cond, dst, src, imm, base, index, hasBase, hasIndex, disp, label⟩ := i
  simp only [Lm.Amd.cells] at hR co ⊢
  obtain ⟨qB, hqB⟩ : ∃ q, q = rB ⟨op, bin, shift, cond, dst, src, imm, base, index, hasBase, hasIndex, disp, label⟩ n := ⟨_, rfl⟩
  obtain ⟨qC, hqC⟩ : ∃ q, q = rC ⟨op, bin, shift, cond, dst, src, imm, base, index, hasBase, hasIndex, disp, label⟩ n := ⟨_, rfl⟩
  obtain ⟨qD, hqD⟩ : ∃ q, q = rD ⟨op, bin, shift, cond, dst, src, imm, base, index, hasBase, hasIndex, disp, label⟩ n := ⟨_, rfl⟩
  rw [← hqB, ← hqC, ← hqD] at hR
  unfold rB at hqB
  unfold rC at hqC
  unfold rD at hqD
  simp only at hqB hqC hqD
  obtain ⟨nb, ns, nc, nd, nsr, ni, na, nl⟩ := n
  replace hR := Hid.mk hR
  replace hqB := Hid.mk hqB
  replace hqC := Hid.mk hqC
  replace hqD := Hid.mk hqD
  obtain ⟨AC, hAC⟩ : ∃ AC : List AV, AC = [I op, I bin, I shift, I cond, I dst, I src, U imm, I base, I index, Bo hasBase, Bo hasIndex, I disp, I label] := ⟨_, rfl⟩
  refine awp_cut (fun _ => false) (fun _ => none) (fun f M => M = H ++ [.box 53 [I op, I bin, I shift, I cond, I dst, I src, U imm, I base, I index, Bo hasBase, Bo hasIndex, I disp, I label]] ∧ f 1 = .bp H.length 0) (by kernel_rfl) ?_ ?_
  · simp -dsimp
  rintro f M ⟨hM, f1⟩
  rw [hM]
  clear hM M
  simp only [Nms.cells] at co
  refine awp_cut (fun _ => false) (fun _ => none) (fun f M => M = H ++ [.box 53 [I op, I bin, I shift, I cond, I dst, I src, U imm, I base, I index, Bo hasBase, Bo hasIndex, I disp, I label], .box 93 [Bo nb, Bo ns, Bo nc, Bo nd, Bo nsr, Bo ni, Bo na, Bo nl]] ∧ f 1 = .bp H.length 0 ∧ f 3 = .bp (H.length + 1) 0) (by kernel_rfl) ?_ ?_
  · simp -dsimp [f1]
    refine acallsW_det (co _) ?_
    simp -dsimp [f1]
  clear f1 f
  rintro f M ⟨hM, f1, f3⟩
  have g1 : M[H.length]? = some (.box 53 [I op, I bin, I shift, I cond, I dst, I src, U imm, I base, I index, Bo hasBase, Bo hasIndex, I disp, I label]) := by rw [hM]; simp
  have g3 : M[H.length + 1]? = some (.box 93 [Bo nb, Bo ns, Bo nc, Bo nd, Bo nsr, Bo ni, Bo na, Bo nl]) := by rw [hM]; simp
  have leaf : Hid (∀ c : Bool, c = R → Tidy H (fun e H' => e = AE.ret (Bo R) ∧ H' = H) (AE.ret (AV.v (Value.bool c))) M) := ⟨fun c hb => by rw [hM]; exact tidy_same rfl ⟨by rw [hb], rfl⟩⟩
  clear hM hAC co
  clear AC
  refine awp_cut (fun _ => false) (fun _ => none) (fun f M' => M' = M ∧ f 1 = .bp H.length 0 ∧ f 3 = .bp (H.length + 1) 0 ∧ ¬ op < 1 ∧ ¬ 20 < op ∧ ¬ dst < 0 ∧ ¬ 15 < dst ∧ ¬ src < 0 ∧ ¬ 15 < src) (by kernel_rfl) ?_ ?_
  · simp -dsimp [f1, f3, g1, g3]
    repeat' ((with_reducible first | refine And.intro ?_ ?_ | refine guardVW_introTD (fun _ => ?_) (fun _ => ?_) | refine guardVW_introFD (fun _ => ?_) (fun _ => ?_) | refine condVW_introD (fun _ => ?_) (fun _ => ?_) | refine guardVW_introTE (fun _ => ?_) (fun _ _ _ => ?_) | refine guardVW_introFE (fun _ => ?_) (fun _ _ _ => ?_) | refine condVW_introE (fun _ => ?_) (fun _ _ _ => ?_) | refine guardVW_introTNE (fun _ _ _ => ?_) (fun _ => ?_) | refine guardVW_introFNE (fun _ _ _ => ?_) (fun _ => ?_) | refine condVW_introNE (fun _ _ _ => ?_) (fun _ => ?_) | refine guardVW_introTB (fun _ => ?_) (fun _ => ?_) | refine guardVW_introFB (fun _ => ?_) (fun _ => ?_) | refine condVW_introB (fun _ => ?_) (fun _ => ?_) | refine guardVW_introT (fun _ => ?_) (fun _ => ?_) | refine guardVW_introF (fun _ => ?_) (fun _ => ?_) | refine condVW_intro (fun _ => ?_) (fun _ => ?_)) <;> simp -dsimp [*, f1, f3, g1, g3])
    all_goals first
      | (refine leaf.out _ ?_; rw [hR.out]; simp [*]; done)
      | omega
  clear f1 f3 f
  rintro f Mx ⟨hMx, f1, f3, h1, h2, h3, h4, h5, h6⟩
  rw [hMx]
  clear hMx Mx
  refine awp_cut (fun _ => false) (fun _ => none) (fun f M' => M' = M ∧ f 1 = .bp H.length 0 ∧ f 3 = .bp (H.length + 1) 0 ∧ qB = false) (by kernel_rfl) ?_ ?_
  · cases nb <;> cases ns
    all_goals simp -dsimp [f1, f3, g1, g3]
    all_goals repeat' ((with_reducible first | refine And.intro ?_ ?_ | refine guardVW_introTD (fun _ => ?_) (fun _ => ?_) | refine guardVW_introFD (fun _ => ?_) (fun _ => ?_) | refine condVW_introD (fun _ => ?_) (fun _ => ?_) | refine guardVW_introTE (fun _ => ?_) (fun _ _ _ => ?_) | refine guardVW_introFE (fun _ => ?_) (fun _ _ _ => ?_) | refine condVW_introE (fun _ => ?_) (fun _ _ _ => ?_) | refine guardVW_introTNE (fun _ _ _ => ?_) (fun _ => ?_) | refine guardVW_introFNE (fun _ _ _ => ?_) (fun _ => ?_) | refine condVW_introNE (fun _ _ _ => ?_) (fun _ => ?_) | refine guardVW_introTB (fun _ => ?_) (fun _ => ?_) | refine guardVW_introFB (fun _ => ?_) (fun _ => ?_) | refine condVW_introB (fun _ => ?_) (fun _ => ?_) | refine guardVW_introT (fun _ => ?_) (fun _ => ?_) | refine guardVW_introF (fun _ => ?_) (fun _ => ?_) | refine condVW_intro (fun _ => ?_) (fun _ => ?_)) <;> simp -dsimp [*, f1, f3, g1, g3])
    all_goals first
      | (refine leaf.out _ ?_; rw [hR.out, hqB.out]; simp [*]; done)
      | (rw [hqB.out]; simp [*]; done)
  clear f1 f3 f
  rintro f Mx ⟨hMx, f1, f3, hB⟩
  rw [hMx]
  clear hMx Mx
  refine awp_cut (fun _ => false) (fun _ => none) (fun f M' => M' = M ∧ f 1 = .bp H.length 0 ∧ f 3 = .bp (H.length + 1) 0 ∧ qC = false) (by kernel_rfl) ?_ ?_
  · cases nc <;> cases nd <;> cases nsr <;> cases ni
    all_goals simp -dsimp [f1, f3, g1, g3]
    all_goals repeat' ((with_reducible first | refine And.intro ?_ ?_ | refine guardVW_introTD (fun _ => ?_) (fun _ => ?_) | refine guardVW_introFD (fun _ => ?_) (fun _ => ?_) | refine condVW_introD (fun _ => ?_) (fun _ => ?_) | refine guardVW_introTE (fun _ => ?_) (fun _ _ _ => ?_) | refine guardVW_introFE (fun _ => ?_) (fun _ _ _ => ?_) | refine condVW_introE (fun _ => ?_) (fun _ _ _ => ?_) | refine guardVW_introTNE (fun _ _ _ => ?_) (fun _ => ?_) | refine guardVW_introFNE (fun _ _ _ => ?_) (fun _ => ?_) | refine condVW_introNE (fun _ _ _ => ?_) (fun _ => ?_) | refine guardVW_introTB (fun _ => ?_) (fun _ => ?_) | refine guardVW_introFB (fun _ => ?_) (fun _ => ?_) | refine condVW_introB (fun _ => ?_) (fun _ => ?_) | refine guardVW_introT (fun _ => ?_) (fun _ => ?_) | refine guardVW_introF (fun _ => ?_) (fun _ => ?_) | refine condVW_intro (fun _ => ?_) (fun _ => ?_)) <;> simp -dsimp [*, f1, f3, g1, g3])
    all_goals first
      | (refine leaf.out _ ?_; rw [hR.out, hqC.out]; simp [*]; done)
      | (rw [hqC.out]; simp [*]; done)
  clear f1 f3 f
  rintro f Mx ⟨hMx, f1, f3, hC⟩
  rw [hMx]
  clear hMx Mx
  have ca := ca base index hasBase hasIndex disp
  have nq := nq_addr base index hasBase hasIndex disp
  obtain ⟨ra, hra⟩ : ∃ ra, ra = rAddr base index hasBase hasIndex disp := ⟨_, rfl⟩
  obtain ⟨za, hza⟩ : ∃ za, za = zAddr ⟨op, bin, shift, cond, dst, src, imm, base, index, hasBase, hasIndex, disp, label⟩ := ⟨_, rfl⟩
  have hz2 : (!((base == 0) && ((index == 0) && ((hasBase == false) && ((hasIndex == false) && ((disp == 0) && true)))))) = !za := by
    rw [hza]
    unfold zAddr
    cases hasBase <;> cases hasIndex <;> simp
  rw [hz2] at nq
  have hqD' := hqD.out
  rw [← hra, ← hza] at hqD'
  rw [← hra] at ca
  replace hqD := Hid.mk hqD'
  clear hqD' hz2 hra hza
  refine awp_cut (fun _ => false) (fun _ => none) (fun f M' => M' = M ∧ f 1 = .bp H.length 0 ∧ f 3 = .bp (H.length + 1) 0 ∧ qD = false) (by kernel_rfl) ?_ ?_
  · cases na <;> cases nl <;> cases za <;> cases ra
    all_goals simp -dsimp [f1, f3, g1, g3, nq]
    all_goals repeat' ((with_reducible first | refine And.intro ?_ ?_ | refine guardVW_introTD (fun _ => ?_) (fun _ => ?_) | refine guardVW_introFD (fun _ => ?_) (fun _ => ?_) | refine condVW_introD (fun _ => ?_) (fun _ => ?_) | refine guardVW_introTE (fun _ => ?_) (fun _ _ _ => ?_) | refine guardVW_introFE (fun _ => ?_) (fun _ _ _ => ?_) | refine condVW_introE (fun _ => ?_) (fun _ _ _ => ?_) | refine guardVW_introTNE (fun _ _ _ => ?_) (fun _ => ?_) | refine guardVW_introFNE (fun _ _ _ => ?_) (fun _ => ?_) | refine condVW_introNE (fun _ _ _ => ?_) (fun _ => ?_) | refine guardVW_introTB (fun _ => ?_) (fun _ => ?_) | refine guardVW_introFB (fun _ => ?_) (fun _ => ?_) | refine condVW_introB (fun _ => ?_) (fun _ => ?_) | refine guardVW_introT (fun _ => ?_) (fun _ => ?_) | refine guardVW_introF (fun _ => ?_) (fun _ => ?_) | refine condVW_intro (fun _ => ?_) (fun _ => ?_) | refine acallsW_det (ca _) ?_ | refine callDW_intro (ca _) ?_) <;> simp -dsimp [*, f1, f3, g1, g3, nq])
    all_goals first
      | (refine leaf.out _ ?_; rw [hR.out, hqD.out]; simp [*]; done)
      | (rw [hqD.out]; simp [*]; done)
  clear f1 f3 f
  rintro f Mx ⟨hMx, f1, f3, hD⟩
  rw [hMx]
  clear hMx Mx
  have cs := fun H => cs imm H
  refine awp_all (hn := fun _ => false) (od := fun _ => none) (by kernel_rfl) ?_
  simp -dsimp [f1, g1]
  repeat' ((with_reducible first | refine And.intro ?_ ?_ | refine guardVW_introTD (fun _ => ?_) (fun _ => ?_) | refine guardVW_introFD (fun _ => ?_) (fun _ => ?_) | refine condVW_introD (fun _ => ?_) (fun _ => ?_) | refine guardVW_introTE (fun _ => ?_) (fun _ _ _ => ?_) | refine guardVW_introFE (fun _ => ?_) (fun _ _ _ => ?_) | refine condVW_introE (fun _ => ?_) (fun _ _ _ => ?_) | refine guardVW_introTNE (fun _ _ _ => ?_) (fun _ => ?_) | refine guardVW_introFNE (fun _ _ _ => ?_) (fun _ => ?_) | refine condVW_introNE (fun _ _ _ => ?_) (fun _ => ?_) | refine guardVW_introTB (fun _ => ?_) (fun _ => ?_) | refine guardVW_introFB (fun _ => ?_) (fun _ => ?_) | refine condVW_introB (fun _ => ?_) (fun _ => ?_) | refine guardVW_introT (fun _ => ?_) (fun _ => ?_) | refine guardVW_introF (fun _ => ?_) (fun _ => ?_) | refine condVW_intro (fun _ => ?_) (fun _ => ?_) | refine acallsW_det (cs _) ?_ | refine callDW_intro (cs _) ?_) <;> simp -dsimp [*, f1, g1])
  all_goals (refine leaf.out _ ?_; rw [hR.out]; simp [*])
end Go.Proofs
namespace Go.Proofs
open Go.Mu
theorem rMay1_eq (i : Amd) (h : Wd i.imm) (hd : -9223372036854775808 ≤ i.disp ∧ i.disp ≤ 9223372036854775807) : rMay1 i = Lm.mayOne i := by
  have hs := short_eq h
  obtain ⟨op, bin, shift, cond, dst, src, imm, base, index, hasBase, hasIndex, disp, label⟩ := i
  simp only at hs hd
  have hsd : Lm.short (IntKind.u64.wrap disp) = (decide (-2147483648 ≤ disp) && decide (disp ≤ 2147483647)) := by
    unfold Lm.short
    rw [IntKind.wrap_u64, IntKind.wrap_u64, IntKind.wrap_i64, IntKind.wrap_i32, Bool.eq_iff_iff, beq_iff_eq, Bool.and_eq_true, decide_eq_true_eq, decide_eq_true_eq]
    omega
  have hra : rAddr base index hasBase hasIndex disp = Lm.mayAddr base index hasBase hasIndex disp := by
    unfold Lm.mayAddr rAddr Lm.isReg
    rw [hsd, Bool.eq_iff_iff]
    cases hasBase <;> cases hasIndex <;> simp <;> omega
  have h0 : Lm.mayAddr 0 0 false false 0 = true := by decide
  by_cases hop : 1 ≤ op ∧ op ≤ 20
  · have : op = 1 ∨ op = 2 ∨ op = 3 ∨ op = 4 ∨ op = 5 ∨ op = 6 ∨ op = 7 ∨ op = 8 ∨ op = 9 ∨ op = 10 ∨ op = 11 ∨ op = 12 ∨ op = 13 ∨ op = 14 ∨ op = 15 ∨ op = 16 ∨ op = 17 ∨ op = 18 ∨ op = 19 ∨ op = 20 := by omega
    rw [Bool.eq_iff_iff]
    unfold rMay1 rB rC rD Lm.mayOne zAddr
    rw [hra]
    generalize Lm.mayAddr base index hasBase hasIndex disp = ma at *
    rw [hs]
    generalize rShort imm = rs at *
    clear hs hsd hra h hd
    rcases this with rfl | rfl | rfl | rfl | rfl | rfl | rfl | rfl | rfl | rfl | rfl | rfl | rfl | rfl | rfl | rfl | rfl | rfl | rfl | rfl
    all_goals simp [nmOf, Lm.partsT, List.lookup_cons, Lm.stripA, Lm.bitP, Lm.isReg, IntKind.wrap, IntKind.bits, IntKind.signed]
    all_goals cases hasBase <;> cases hasIndex <;> cases ma <;> cases rs <;> simp <;> omega
  · have e1 : rMay1 ⟨op, bin, shift, cond, dst, src, imm, base, index, hasBase, hasIndex, disp, label⟩ = false := by
      unfold rMay1
      have : (decide (op < 1) || decide (20 < op)) = true := by simp; omega
      simp only [this, Bool.true_or, Bool.not_true, Bool.false_and]
    have e2 : Lm.mayOne ⟨op, bin, shift, cond, dst, src, imm, base, index, hasBase, hasIndex, disp, label⟩ = false := by
      unfold Lm.mayOne
      cases hl : Lm.partsT.lookup op with
      | none => rfl
      | some p =>
        exfalso
        have hm := Lm.lookup_mem hl
        simp only [Lm.partsT, List.mem_cons, Prod.mk.injEq, List.not_mem_nil, or_false] at hm
        omega
    rw [e1, e2]
end Go.Proofs
namespace Go.Proofs
open Go.Mu
def whA : List Amd → Int → Int → Int
  | [], _, _ => -1
  | a :: l, k, i => if a.op = 19 ∧ a.label = k then i else whA l k (i + 1)
theorem rwhere19_ok (l : List Amd) (hl : l.length ≤ 2^40) (k : Int) (H : List Blk) : ACalls Try.prog 19 [Lm.Amd.sl l, I k] H (fun e H' => e = .ret (I (whA l k 0)) ∧ H' = H) := by
  refine acalls_of_vc (hn := fun _ => false) (od := fun _ => none) Try.func19 rfl (by kernel_rfl) ?_
  simp -dsimp
  refine loop_rule (hn := fun _ => false) (od := fun _ => none) (fun (i : Nat) f H' => H' = H ∧ f 0 = Lm.Amd.sl l ∧ f 1 = I k ∧ f 5 = I i ∧ i ≤ l.length ∧ whA (l.drop i) k i = whA l k 0) (fun i => l.length - i) (by kernel_rfl) 0 (by simp) ?_
  rintro i f H' ⟨rfl, f0, f1, f5, hi, ht⟩
  simp -dsimp [f0, f1, f5]
  refine condVW_introD (fun hlt => ?_) (fun hlt => ?_)
  · have hlt' : i < l.length := by omega
    have hg : l[i]? = some l[i] := List.getElem?_eq_getElem hlt'
    rw [Lm.drop_cons hlt'] at ht
    obtain ⟨x, hx⟩ : ∃ x, x = l[i] := ⟨_, rfl⟩
    rw [← hx] at ht hg
    clear hx
    obtain ⟨op, bin, shift, cond, dst, src, imm, base, index, hasBase, hasIndex, disp, label⟩ := x
    simp only [whA] at ht
    simp -dsimp [f0, f1, f5, hg]
    by_cases h1 : op = 19
    · subst h1
      by_cases h2 : label = k
      · subst h2
        simp -dsimp [f0, f1, f5, hg]
        rw [← ht]
        simp
      · rw [if_neg (by simp [h2])] at ht
        have e2 : (label == k) = false := by simp [h2]
        simp -dsimp [f0, f1, f5, hg, e2]
        exact ⟨i + 1, by omega, Lm.wrapS (by omega), by omega, ht⟩
    · rw [if_neg (by simp [h1])] at ht
      have e1 : (op == 19) = false := by simp [h1]
      simp -dsimp [f0, f1, f5, hg, e1]
      exact ⟨i + 1, by omega, Lm.wrapS (by omega), by omega, ht⟩
  · simp -dsimp [f0, f1, f5]
    rw [Lm.drop_end (by omega)] at ht
    rw [← ht]
    rfl
def rGood (l : List Amd) (a : Amd) (i : Int) : Bool := rMay1 a && (!((a.op == 19) && (whA l a.label 0 != i)) && !((a.op == 17 || a.op == 18) && decide (whA l a.label 0 < 0)))
def rGoods (l : List Amd) : List Amd → Int → Bool
  | [], _ => true
  | a :: r, i => rGood l a i && rGoods l r (i + 1)
def rMayA (l : List Amd) : Bool := decide (l.length ≤ 1048576) && rGoods l l 0
theorem rmay19_ok (l : List Amd) (hl : l.length ≤ 2^40) (H : List Blk) : ACalls Try.prog 8 [Lm.Amd.sl l] H (fun e H' => e = .ret (Bo (rMayA l)) ∧ H' = H) := by
  refine acalls_of_vc (hn := fun _ => false) (od := fun _ => none) Try.func8 rfl (by kernel_rfl) ?_
  have cm := rmayone_ok
  have cw := fun k H => rwhere19_ok l hl k H
  simp -dsimp
  refine condVW_introD (fun h0 => ?_) (fun h0 => ?_)
  · simp -dsimp
    simp only [rMayA, Bool.and_eq_false_iff, decide_eq_false_iff_not]
    left
    omega
  have hR : rMayA l = rGoods l l 0 := by rw [rMayA, decide_eq_true (by omega), Bool.true_and]
  rw [hR]
  obtain ⟨R, hRR⟩ : ∃ R, R = rGoods l l 0 := ⟨_, rfl⟩
  rw [← hRR]
  simp -dsimp
  refine loop_rule (hn := fun _ => false) (od := fun _ => none) (fun (i : Nat) f H' => H' = H ∧ f 0 = Lm.Amd.sl l ∧ f 3 = I i ∧ i ≤ l.length ∧ rGoods l (l.drop i) i = R) (fun i => l.length - i) (by kernel_rfl) 0 (by simp [hRR]) ?_
  rintro i f H' ⟨rfl, f0, f3, hi, ht⟩
  simp -dsimp [f0, f3]
  refine condVW_introD (fun hlt => ?_) (fun hlt => ?_)
  · have hlt' : i < l.length := by omega
    have hg : l[i]? = some l[i] := List.getElem?_eq_getElem hlt'
    rw [Lm.drop_cons hlt', rGoods] at ht
    obtain ⟨x, hx⟩ : ∃ x, x = l[i] := ⟨_, rfl⟩
    rw [← hx] at ht hg
    clear hx
    have cm := fun H => cm x H
    have cw := fun H => cw x.label H
    unfold rGood at ht
    obtain ⟨m1, hm1⟩ : ∃ m, m = rMay1 x := ⟨_, rfl⟩
    obtain ⟨w, hw⟩ : ∃ w, w = whA l x.label 0 := ⟨_, rfl⟩
    rw [← hm1] at ht cm
    rw [← hw] at ht cw
    obtain ⟨op, bin, shift, cond, dst, src, imm, base, index, hasBase, hasIndex, disp, label⟩ := x
    simp only [Lm.Amd.cells] at cm cw ht
    clear hm1 hw
    obtain ⟨b19, h19⟩ : ∃ b, (op == 19) = b := ⟨_, rfl⟩
    obtain ⟨b17, h17⟩ : ∃ b, (op == 17) = b := ⟨_, rfl⟩
    obtain ⟨b18, h18⟩ : ∃ b, (op == 18) = b := ⟨_, rfl⟩
    obtain ⟨bw, hbw⟩ : ∃ b, (w != (i : Int)) = b := ⟨_, rfl⟩
    obtain ⟨bn, hbn⟩ : ∃ b, decide (w < 0) = b := ⟨_, rfl⟩
    rw [h19, h17, h18, hbw, hbn] at ht
    have nx : rGoods l (l.drop (i + 1)) ((i : Int) + 1) = R → ∃ y, l.length - y < l.length - i ∧ IntKind.i64.wrap ((i : Int) + 1) = (y : Int) ∧ y ≤ l.length ∧ rGoods l (l.drop y) y = R := fun h => ⟨i + 1, by omega, Lm.wrapS (by omega), by omega, h⟩
    replace nx := Hid.mk nx
    simp -dsimp [f0, f3, hg]
    refine acallsW_det (cm _) ?_
    cases m1
    · simp -dsimp
      rw [← ht]
      rfl
    simp only [Bool.true_and] at ht
    cases b19 <;> cases b17 <;> cases b18
    all_goals simp -dsimp [f0, f3, hg, h19, h17, h18]
    all_goals try (refine acallsW_det (cw _) ?_)
    all_goals cases bw <;> cases bn
    all_goals try simp -dsimp [f0, f3, hg, h19, h17, h18, hbw, hbn]
    all_goals try (refine acallsW_det (cw _) ?_)
    all_goals try simp -dsimp [f0, f3, hg, h19, h17, h18, hbw, hbn]
    all_goals simp at ht
    all_goals first
      | (exact nx.out ht)
      | (exact ht)
      | (exact ht.symm)
      | skip
  · simp -dsimp [f0, f3]
    rw [Lm.drop_end (by omega)] at ht
    rw [← ht]
    rfl
theorem keys_shift : ∀ (l : List Amd) (m n : Nat), (Lm.labsA l m).map (·.1) = (Lm.labsA l n).map (·.1)
  | [], _, _ => rfl
  | a :: l, m, n => by
    rw [Lm.labsA, Lm.labsA]
    split
    · rw [List.map_cons, List.map_cons, keys_shift l (m + 1) (n + 1)]
    · exact keys_shift l _ _
theorem whA_mem : ∀ (l : List Amd) (k n : Int), 0 ≤ n → (whA l k n < 0 ↔ k ∉ Lm.keysA l)
  | [], k, n, hn => by simp [whA, Lm.keysA, Lm.labsA]
  | a :: l, k, n, hn => by
    have ih := whA_mem l k (n + 1) (by omega)
    unfold Lm.keysA at ih ⊢
    rw [whA, Lm.labsA]
    by_cases h : a.op = 19
    · rw [if_pos h, List.map_cons, keys_shift l 1 0]
      by_cases h2 : a.label = k
      · rw [if_pos ⟨h, h2⟩]
        simp [h2]; omega
      · rw [if_neg (fun e => h2 e.2), ih]
        simp only [List.mem_cons, not_or]
        exact ⟨fun e => ⟨fun e2 => h2 e2.symm, e⟩, fun e => e.2⟩
    · rw [if_neg h, if_neg (fun e => h e.1), keys_shift l 1 0]
      exact ih
theorem whA_nodup : ∀ (l : List Amd) (n : Int), 0 ≤ n → ((Lm.keysA l).Nodup ↔ ∀ i (h : i < l.length), l[i].op = 19 → whA l l[i].label n = n + i)
  | [], n, hn => by simp [Lm.keysA, Lm.labsA]
  | a :: l, n, hn => by
    have ih := whA_nodup l (n + 1) (by omega)
    have hm := fun k => whA_mem l k (n + 1) (by omega)
    have hk : Lm.keysA (a :: l) = if a.op = 19 then a.label :: Lm.keysA l else Lm.keysA l := by
      unfold Lm.keysA
      rw [Lm.labsA]
      split
      · rw [List.map_cons, keys_shift l 1 0]
      · rw [keys_shift l 1 0]
    rw [hk]
    by_cases h : a.op = 19
    · rw [if_pos h, List.nodup_cons, ih]
      constructor
      · rintro ⟨h1, h2⟩ i hi ho
        cases i with
        | zero => rw [whA, if_pos ⟨h, rfl⟩]; simp
        | succ i =>
          simp only [List.length_cons] at hi
          have hi' : i < l.length := by omega
          simp only [List.getElem_cons_succ] at ho ⊢
          have hne : a.label ≠ l[i].label := fun e => h1 (by
            rw [e]
            exact Classical.byContradiction fun hc => by
              have h3 := (hm l[i].label).2 hc
              have h4 := h2 i hi' ho
              omega)
          rw [whA, if_neg (fun e => hne e.2), h2 i hi' ho]
          omega
      · intro hall
        refine ⟨fun hmem => ?_, fun i hi ho => ?_⟩
        · have : ∃ i, ∃ hi : i < l.length, l[i].op = 19 ∧ l[i].label = a.label := by
            clear ih hm hk hall
            unfold Lm.keysA at hmem
            have key : ∀ (l : List Amd) (m : Nat), a.label ∈ (Lm.labsA l m).map (·.1) → ∃ i, ∃ hi : i < l.length, l[i].op = 19 ∧ l[i].label = a.label := by
              intro l
              induction l with
              | nil => intro m h; simp [Lm.labsA] at h
              | cons b l ih =>
                intro m hm
                rw [Lm.labsA] at hm
                by_cases hb : b.op = 19
                · rw [if_pos hb, List.map_cons, List.mem_cons] at hm
                  rcases hm with hm | hm
                  · exact ⟨0, by simp, hb, hm.symm⟩
                  · obtain ⟨i, hi, h1, h2⟩ := ih _ hm
                    exact ⟨i + 1, by simp; omega, h1, h2⟩
                · rw [if_neg hb] at hm
                  obtain ⟨i, hi, h1, h2⟩ := ih _ hm
                  exact ⟨i + 1, by simp; omega, h1, h2⟩
            exact key l 0 hmem
          obtain ⟨i, hi, h1, h2⟩ := this
          have := hall (i + 1) (by simp; omega) h1
          simp only [List.getElem_cons_succ] at this
          rw [whA, if_pos ⟨h, h2.symm⟩] at this
          omega
        · have := hall (i + 1) (by simp; omega) ho
          simp only [List.getElem_cons_succ] at this
          by_cases e : a.label = l[i].label
          · rw [whA, if_pos ⟨h, e⟩] at this; omega
          · rw [whA, if_neg (fun q => e q.2)] at this
            omega
    · rw [if_neg h, ih]
      constructor
      · intro hall i hi ho
        cases i with
        | zero => exact absurd ho h
        | succ i =>
          simp only [List.getElem_cons_succ] at ho ⊢
          rw [whA, if_neg (fun e => h e.1), hall i (by simp at hi; omega) ho]
          omega
      · intro hall i hi ho
        have := hall (i + 1) (by simp; omega) ho
        simp only [List.getElem_cons_succ] at this
        rw [whA, if_neg (fun e => h e.1)] at this
        omega
theorem rGoods_iff (l : List Amd) : ∀ (r : List Amd) (n : Int), rGoods l r n = true ↔ ∀ i (h : i < r.length), rGood l r[i] (n + i) = true
  | [], n => by simp [rGoods]
  | a :: r, n => by
    rw [rGoods, Bool.and_eq_true, rGoods_iff l r (n + 1)]
    constructor
    · rintro ⟨h1, h2⟩ i hi
      cases i with
      | zero => simpa using h1
      | succ i =>
        have := h2 i (by simp at hi; omega)
        simp only [List.getElem_cons_succ]
        rw [show n + ((i + 1 : Nat) : Int) = n + 1 + i by omega]
        exact this
    · intro h
      refine ⟨by have := h 0 (by simp); rw [show n + ((0 : Nat) : Int) = n by omega] at this; exact this, fun i hi => ?_⟩
      have := h (i + 1) (by simp; omega)
      simp only [List.getElem_cons_succ] at this
      rw [show n + ((i + 1 : Nat) : Int) = n + 1 + i by omega] at this
      exact this
theorem rMayA_eq (l : List Amd) (hw : ∀ i ∈ l, Wd i.imm ∧ -9223372036854775808 ≤ i.disp ∧ i.disp ≤ 9223372036854775807) : rMayA l = Lm.mayA l := by
  unfold rMayA Lm.mayA
  rw [Bool.and_assoc]
  congr 1
  rw [Bool.eq_iff_iff, rGoods_iff, Bool.and_eq_true, decide_eq_true_eq, whA_nodup l 0 (by omega), List.all_eq_true]
  have one : ∀ i (h : i < l.length), rMay1 l[i] = Lm.mayOne l[i] := fun i h => rMay1_eq _ (hw _ (List.getElem_mem h)).1 (hw _ (List.getElem_mem h)).2
  constructor
  · intro h
    refine ⟨fun i hi ho => ?_, fun a ha => ?_⟩
    · have := h i hi
      unfold rGood at this
      simp only [Bool.and_eq_true, Bool.not_eq_true', Bool.and_eq_false_iff] at this
      rcases this.2.1 with h1 | h1
      · simp [ho] at h1
      · simpa using h1
    · obtain ⟨i, hi, rfl⟩ := List.mem_iff_getElem.1 ha
      have := h i hi
      unfold rGood at this
      rw [one i hi] at this
      unfold Lm.goodA
      simp only [Bool.and_eq_true, Bool.not_eq_true', Bool.and_eq_false_iff, decide_eq_false_iff_not] at this
      rw [Bool.and_eq_true, this.1]
      refine ⟨rfl, ?_⟩
      rcases this.2.2 with h1 | h1
      · rw [h1]; rfl
      · rw [whA_mem l _ 0 (by omega)] at h1
        have : l[i].label ∈ Lm.keysA l := Classical.byContradiction h1
        simp [this]
  · rintro ⟨h1, h2⟩ i hi
    have h3 := h2 _ (List.getElem_mem hi)
    unfold Lm.goodA at h3
    rw [Bool.and_eq_true] at h3
    unfold rGood
    rw [one i hi, h3.1]
    simp only [Bool.true_and, Bool.and_eq_true, Bool.not_eq_true', Bool.and_eq_false_iff, decide_eq_false_iff_not]
    refine ⟨?_, ?_⟩
    · by_cases ho : l[i].op = 19
      · right
        have := h1 i hi ho
        simp [this]
      · left; simp [ho]
    · have h4 := h3.2
      rw [Bool.or_eq_true] at h4
      rcases h4 with h4 | h4
      · left; simpa using h4
      · right
        rw [whA_mem l _ 0 (by omega)]
        exact fun hc => hc (of_decide_eq_true h4)
end Go.Proofs
namespace Go.Proofs
open Go.Mu
theorem much_ok (l : List Amd) (hl : l.length ≤ 2^40) (H : List Blk) : ACalls Try.prog 5 [Lm.Amd.sl l] H (fun e H' => e = .ret (Bo (decide (200 < l.length))) ∧ H' = H) := by
  refine acalls_of_vc (hn := fun _ => false) (od := fun _ => none) Try.func5 rfl (by kernel_rfl) ?_
  have e : decide ((200 : Int) < (l.length : Int)) = decide (200 < l.length) := decide_eq_decide.2 (by omega)
  simp -dsimp
  omega
theorem eq_seq (g : FuncId) (cs : List AV) : binE Try.prog .eql 65 (.fn (.func g) [] cs) (.v .nilFunc) = some (.v (.bool false)) := by kernel_rfl
theorem labsA_at : ∀ (l : List Amd) (m j : Nat) (k v : Int), (Lm.labsA l m)[j]? = some (k, v) → ∃ i : Nat, ∃ h : i < l.length, v = m + i ∧ l[i].op = 19 ∧ l[i].label = k
  | [], m, j, k, v, h => by simp [Lm.labsA] at h
  | a :: l, m, j, k, v, h => by
    rw [Lm.labsA] at h
    split at h
    · rename_i ho
      cases j with
      | zero => simp at h; exact ⟨0, by simp, by simp [h.2], ho, h.1⟩
      | succ j =>
        obtain ⟨i, hi, h1, h2, h3⟩ := labsA_at l (m + 1) j k v (by simpa using h)
        exact ⟨i + 1, by simp; omega, by omega, h2, h3⟩
    · obtain ⟨i, hi, h1, h2, h3⟩ := labsA_at l (m + 1) j k v h
      exact ⟨i + 1, by simp; omega, by omega, h2, h3⟩
theorem labsA_ge : ∀ (l : List Amd) (m : Nat), ∀ p ∈ Lm.labsA l m, (m : Int) ≤ p.2
  | [], m, p, h => by simp [Lm.labsA] at h
  | a :: l, m, p, h => by
    rw [Lm.labsA] at h
    split at h
    · rcases List.mem_cons.1 h with rfl | h
      · exact Int.le_refl _
      · have := labsA_ge l (m + 1) p h; omega
    · have := labsA_ge l (m + 1) p h; omega
theorem labsA_rise : ∀ (l : List Amd) (m : Nat), (Lm.labsA l m).Pairwise (fun p q => p.2 < q.2)
  | [], m => by simp [Lm.labsA]
  | a :: l, m => by
    rw [Lm.labsA]
    split
    · rw [List.pairwise_cons]
      exact ⟨fun p hp => by have := labsA_ge l (m + 1) p hp; show (m : Int) < p.2; omega, labsA_rise l (m + 1)⟩
    · exact labsA_rise l (m + 1)
def cntA : List Amd → Nat
  | [] => 0
  | a :: l => (if a.op = 19 then 1 else 0) + cntA l
theorem labsA_cnt : ∀ (l : List Amd) (m : Nat), (Lm.labsA l m).length = cntA l
  | [], m => rfl
  | a :: l, m => by
    rw [Lm.labsA, cntA]
    split
    · rw [List.length_cons, labsA_cnt l (m + 1)]; omega
    · rw [labsA_cnt l (m + 1)]; omega
theorem cntA_le : ∀ l : List Amd, cntA l ≤ l.length
  | [] => Nat.le_refl _
  | a :: l => by have := cntA_le l; rw [cntA, List.length_cons]; split <;> omega
def lastA (l : List Amd) : Nat → Int
  | 0 => -1
  | i + 1 => ((Lm.labsA l 0)[i]?.map (·.2)).getD 0
theorem lastA_succ (l : List Amd) (i : Nat) : lastA l (i + 1) = ((Lm.labsA l 0)[i]?.map (·.2)).getD 0 := rfl
def onM (H : List Blk) (l : List Amd) (most : Int) (r : Bool) (n at_ : Int) : List Blk :=
  H ++ [.box 22 [Lm.Amd.sl l], .box 3 [I most], .box 4 [Bo r], .box 3 [I n], .box 22 [Lm.Amd.sl l], .box 3 [I at_]]
theorem onM_len {H : List Blk} {l : List Amd} {most : Int} {r : Bool} {n a : Int} : (onM H l most r n a).length = H.length + 6 := by simp [onM]
theorem once_ok (l : List Amd) (hl : l.length ≤ 2^32) (most : Int) (H : List Blk) : ACalls Try.prog 9 [Lm.Amd.sl l, I most] H (fun e H' => e = .ret (Bo true) ∧ H' = H) := by
  refine acalls_tidy (acalls_of_vcM (hn := fun _ => false) (od := fun _ => none) Try.func9 rfl (by kernel_rfl) ?_)
  have lb := fun H => Lm.labels_ok l H
  have nf := fun (K : AV → Prop) (w : Wit K) => bin_fn Try.prog .eql 65 true false (.func 33) [] [.bp (H.length + 4) 0] (.v .nilFunc) rfl K w
  have es := eq_seq
  simp -dsimp
  refine acallsW_of (lb _) (fun e H' hq => ?_)
  obtain ⟨rfl, rfl⟩ := hq
  simp -dsimp [nf, es]
  have hM : H ++ [Blk.box 22 [Lm.Amd.sl l], .box 3 [I most], .box 4 [Bo false], .box 3 [I 0], .box 22 [Lm.Amd.sl l], .box 3 [I (-1)]] = onM H l most false 0 (-1) := rfl
  rw [hM]
  have hcl := labsA_cnt l 0
  have hcle := cntA_le l
  refine awp_range ((Lm.labsA l 0).map fun p => [I p.1, I p.2]) (fun A => A[H.length + 4]? = some (.box 22 [Lm.Amd.sl l])) (fun i A => A = onM H l most false i (lastA l i))
    (fun ex A => ex = .ret ∧ ∃ n a, A = onM H l most true n a) (by kernel_rfl) rfl (by simp only [List.mem_map]; rintro e ⟨p, _, rfl⟩; rfl) ?_ rfl ?_ ?_ ?_ ?_ ?_
  · rw [onM_len]
    intro k J Jx hJ hy A h0
    refine Lm.labels_seq l (by omega) (H.length + 4) (H.length + 6 + 2) (by omega) k J Jx (fun i A h => ?_) hy A h0
    obtain ⟨h1, A0, b, rfl, h2, h3⟩ := hJ i A h
    exact ⟨h1, get_app_old h3 b⟩
  · rintro i A rfl
    exact ⟨by simp [onM], by simp [onM]⟩
  · rintro ex A ⟨-, n, a, rfl⟩
    simp [onM]
  · rintro i A B e he rfl
    rw [List.getElem?_map] at he
    obtain ⟨⟨lab, at_⟩, hp, rfl⟩ := Option.map_eq_some_iff.1 he
    have hi : i < (Lm.labsA l 0).length := (List.getElem?_eq_some_iff.1 hp).1
    obtain ⟨p, hpl, hat, hop, hlb⟩ := labsA_at l 0 i lab at_ hp
    have hat : at_ = (p : Int) := by omega
    subst hat
    have hlast : lastA l i < (p : Int) := by
      cases i with
      | zero => simp [lastA]; omega
      | succ i =>
        rw [lastA_succ]
        have hg := List.getElem?_eq_getElem (show i < (Lm.labsA l 0).length by omega)
        rw [hg]
        have hr := List.pairwise_iff_getElem.1 (labsA_rise l 0) i (i + 1) (by omega) hi (by omega)
        have hp2 : (Lm.labsA l 0)[i + 1] = (lab, (p : Int)) := by rw [List.getElem?_eq_getElem hi] at hp; exact Option.some.inj hp
        rw [hp2] at hr
        exact hr
    have hnext : lastA l (i + 1) = (p : Int) := by rw [lastA_succ, hp]; rfl
    obtain ⟨la, hla⟩ : ∃ la, la = lastA l i := ⟨_, rfl⟩
    rw [← hla] at hlast ⊢
    have hge := List.getElem?_eq_getElem hpl
    obtain ⟨x, hx⟩ : ∃ x, x = l[p] := ⟨_, rfl⟩
    rw [← hx] at hop hlb hge
    clear hx
    obtain ⟨op, bin, shift, cond, dst, src, imm, base, index, hasBase, hasIndex, disp, label⟩ := x
    simp only at hop hlb
    subst hop hlb
    have d1 : decide ((p : Int) ≤ la) = false := decide_eq_false (by omega)
    have d2 : decide ((l.length : Int) ≤ (p : Int)) = false := decide_eq_false (by omega)
    have d3 : decide (l.length ≤ p) = false := decide_eq_false (by omega)
    have hw : IntKind.i64.wrap ((i : Int) + 1) = (i : Int) + 1 := wrapI (by omega) (by omega)
    refine awpW_of_vc (hn := fun _ => false) (od := fun _ => none) (by kernel_rfl) ?_
    simp -dsimp
    intro B'
    refine awpW_of_vc (hn := fun _ => false) (od := fun _ => none) (by kernel_rfl) ?_
    simp -dsimp [onM, d1, d2, d3, hge, hw]
    obtain ⟨be, hbe⟩ : ∃ b, ((i : Int) + 1 == most) = b := ⟨_, rfl⟩
    cases be
    · simp -dsimp [hbe]
      refine roundEnd_of (onM H l most false ((i + 1 : Nat) : Int) (lastA l (i + 1))) _ (by rw [hnext]; simp [onM]; rfl) ?_
      rfl
    · simp -dsimp [hbe]
      exact roundEnd_of (onM H l most true ((i : Int) + 1) p) [] (by simp [onM]) ⟨rfl, _, _, rfl⟩
  · rintro A C rfl
    have e1 : ((Lm.labsA l 0).map fun p => [I p.1, I p.2]).length = cntA l := by rw [List.length_map, hcl]
    rw [e1]
    have key : ∀ i, i ≤ l.length → cntA (l.take i) + cntA (l.drop i) = cntA l := fun i _ => by
      have : ∀ a b : List Amd, cntA (a ++ b) = cntA a + cntA b := by
        intro a b
        induction a with
        | nil => simp [cntA]
        | cons x a ih => rw [List.cons_append, cntA, cntA, ih]; omega
      rw [← this, List.take_append_drop]
    obtain ⟨la, hla⟩ : ∃ la, la = lastA l (cntA l) := ⟨_, rfl⟩
    rw [← hla]
    clear hla
    simp -dsimp [onM]
    refine loop_rule (hn := fun _ => false) (od := fun _ => none) (fun (i : Nat) f M => M = onM H l most false (cntA l) la ++ (.dfr true :: C) ∧ f 2 = .bp H.length 0 ∧ f 4 = .bp (H.length + 2) 0 ∧ f 5 = .bp (H.length + 3) 0 ∧ f 10 = I (cntA (l.take i)) ∧ f 11 = I i ∧ i ≤ l.length) (fun i => l.length - i) (by kernel_rfl) 0 (by refine ⟨by simp [onM], ?_⟩; simp [cntA]) ?_
    rintro i f M ⟨hM', f2, f4, f5, f10, f11, hi⟩
    rw [hM']
    clear hM' M
    simp -dsimp [f2, f4, f5, f10, f11, onM]
    have hk := key i hi
    refine condVW_introD (fun hlt => ?_) (fun hlt => ?_)
    · have hg := List.getElem?_eq_getElem hlt
      have htk : cntA (l.take (i + 1)) = cntA (l.take i) + (if l[i].op = 19 then 1 else 0) := by
        have : ∀ a : List Amd, ∀ x, cntA (a ++ [x]) = cntA a + (if x.op = 19 then 1 else 0) := by
          intro a x
          induction a with
          | nil => simp [cntA]
          | cons y a ih => rw [List.cons_append, cntA, cntA, ih]; omega
        rw [List.take_succ_eq_append_getElem hlt, this]
      obtain ⟨x, hx⟩ : ∃ x, x = l[i] := ⟨_, rfl⟩
      rw [← hx] at htk hg
      clear hx
      obtain ⟨c, hc⟩ : ∃ c, c = cntA (l.take i) := ⟨_, rfl⟩
      rw [← hc] at htk hk
      obtain ⟨op, bin, shift, cond, dst, src, imm, base, index, hasBase, hasIndex, disp, label⟩ := x
      simp only at htk
      have hcb : IntKind.i64.wrap ((c : Int) + 1) = (c : Int) + 1 := wrapI (by omega) (by omega)
      by_cases h19 : op = 19
      · subst h19
        rw [if_pos rfl] at htk
        simp -dsimp [f2, f4, f5, f10, f11, ← hc, hg, hcb]
        refine ⟨i + 1, by omega, ?_, Lm.wrapS (by omega), by omega⟩
        rw [htk]; simp
      · rw [if_neg h19] at htk
        have e19 : (op == 19) = false := by simp [h19]
        simp -dsimp [f2, f4, f5, f10, f11, ← hc, hg, hcb, e19]
        refine ⟨i + 1, by omega, ?_, Lm.wrapS (by omega), by omega⟩
        rw [htk]; simp
    · obtain rfl : i = l.length := by omega
      rw [List.take_length] at f10
      simp -dsimp [f2, f4, f5, f10, f11]
      exact tidy_same rfl ⟨by simp, rfl⟩
  · rintro ex A C ⟨rfl, n, a, rfl⟩ - -
    simp -dsimp [onM]
    exact tidy_same rfl ⟨rfl, rfl⟩
theorem may_law (l : List Amd) (leave : Int) (hl : l.length ≤ 2^32) (hw : ∀ i ∈ l, Wd i.imm ∧ -9223372036854775808 ≤ i.disp ∧ i.disp ≤ 9223372036854775807) (H : List Blk) : ACalls Try.prog 3 [Lm.Amd.sl l, I leave] H (fun e H' => e = .ret (Bo true) ∧ H' = H) := by
  refine acalls_tidy (acalls_of_vc (hn := fun _ => false) (od := fun _ => none) Try.func3 rfl (by kernel_rfl) ?_)
  have cm := fun H => much_ok l (by omega) H
  have ck := known19_ok
  have ca := fun H => Lm.mayCode_ok l (by omega) H
  have cr := fun H => rmay19_ok l (by omega) H
  rw [rMayA_eq l hw] at cr
  have co := fun k H => once_ok l hl k H
  generalize Lm.mayA l = m at ca cr
  have eb : binE Try.prog .eql 4 (Bo m) (Bo m) = some (Bo true) := by cases m <;> kernel_rfl
  obtain ⟨b, hb⟩ : ∃ b, b = decide (200 < l.length) := ⟨_, rfl⟩
  rw [← hb] at cm
  simp -dsimp
  refine acallsW_det (cm _) ?_
  cases b
  · simp -dsimp
    refine acallsW_det (ca _) ?_
    simp -dsimp
    refine acallsW_det (cr _) ?_
    simp -dsimp [eb]
    refine acallsW_det (co _ _) ?_
    simp -dsimp
    refine acallsW_det (co _ _) ?_
    simp -dsimp
    refine acallsW_det (ck _) ?_
    simp -dsimp
    exact tidy_now rfl ⟨rfl, rfl⟩
  · simp -dsimp
    refine acallsW_det (ck _) ?_
    simp -dsimp
    exact tidy_now rfl ⟨rfl, rfl⟩
end Go.Proofs
