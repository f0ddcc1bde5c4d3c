/- The document: what is asked of registers first. -/
import Derived.Test.YtklgcajfkkoacaaGreatCWBtoRL6
import Derived.Test.YtklgcajfkkoacaaGreatCY1toCY4
import Derived.Test.YtklgcajfkkoacaaGreatCZ1toCZP
set_option linter.unusedVariables false
set_option linter.unusedSimpArgs false
set_option maxHeartbeats 4000000
set_option maxRecDepth 100000
namespace Go.Proofs
open Go.Mu
end Go.Proofs
namespace Go.Proofs
open Go.Mu
end Go.Proofs
namespace Go.Proofs
open Go.Mu
end Go.Proofs
namespace Go.Proofs
open Go.Mu
theorem kA1 : chkM lA [0, 1] = (0, 0) := by
  have h : ∀ i, liveL lA i = liveC lA 4 i := liveC_eq (by decide +kernel) (by decide +kernel)
  unfold chkM begOk rightOk behL
  simp only [h]
  decide +kernel
theorem kA2 : chkM lA [0, 0] = (1, 16) := by
  have h : ∀ i, liveL lA i = liveC lA 4 i := liveC_eq (by decide +kernel) (by decide +kernel)
  unfold chkM begOk rightOk behL
  simp only [h]
  decide +kernel
theorem kA3 : chkM lA [0] = (-1, 16) := by
  have h : ∀ i, liveL lA i = liveC lA 4 i := liveC_eq (by decide +kernel) (by decide +kernel)
  unfold chkM begOk rightOk behL
  simp only [h]
  decide +kernel
theorem kB1 : chkM lB [0, 0] = (0, 0) := by
  have h : ∀ i, liveL lB i = liveC lB 3 i := liveC_eq (by decide +kernel) (by decide +kernel)
  unfold chkM begOk rightOk behL
  simp only [h]
  decide +kernel
theorem mv_ok (d a : Int) (H : List Blk) : ACalls Tryz.prog 27 [I d, I a] H (fun e H' => e = .ret (.agg (mvL d a).cells) ∧ H' = H) := by
  refine acalls_tidy (acalls_of_vc (hn := fun _ => false) (od := fun _ => none) Tryz.func27 rfl (by kernel_rfl) ?_)
  simp -dsimp [mvL]
  try exact tidy_same rfl ⟨rfl, rfl⟩
theorem wd_ok (d n : Int) (H : List Blk) : ACalls Tryz.prog 28 [I d, U n] H (fun e H' => e = .ret (.agg (wdL d n).cells) ∧ H' = H) := by
  refine acalls_tidy (acalls_of_vc (hn := fun _ => false) (od := fun _ => none) Tryz.func28 rfl (by kernel_rfl) ?_)
  simp -dsimp [wdL]
  try exact tidy_same rfl ⟨rfl, rfl⟩
theorem en_ok (H : List Blk) : ACalls Tryz.prog 29 [] H (fun e H' => e = .ret (.agg enL.cells) ∧ H' = H) := by
  refine acalls_tidy (acalls_of_vc (hn := fun _ => false) (od := fun _ => none) Tryz.func29 rfl (by kernel_rfl) ?_)
  simp -dsimp [enL, zeroIns]
  try exact tidy_same rfl ⟨rfl, rfl⟩
theorem num18_ok (n : Int) (H : List Blk) : ACalls Tryz.prog 12 [I n] H (fun e H' => e = .ret (I n) ∧ H' = H) := by
  refine acalls_of_vc (hn := fun _ => false) (od := fun _ => none) Tryz.func12 rfl (by kernel_rfl) ?_
  simp -dsimp
theorem says_ok (l : Linear) (hs : l.Sm) (line e : Int) (regs : List Int) (hrl : regs.length ≤ 2^36) (H : List Blk) : ACalls Tryz.prog 30 [.agg l.cells, I line, I e, Int.sl regs] H (fun x H' => x = .ret (Bo (decide (chkM l regs = (line, e)))) ∧ H' = H) := by
  refine acalls_tidy (acalls_of_vc (hn := fun _ => false) (od := fun _ => none) Tryz.func30 rfl (by kernel_rfl) ?_)
  have cc := fun H => ccheck_ok l hs regs hrl H
  simp only [Linear.cells] at cc
  obtain ⟨a, b, hab⟩ : ∃ a b, chkM l regs = (a, b) := ⟨_, _, rfl⟩
  rw [hab] at cc
  have E : decide (chkM l regs = (line, e)) = (a == line && b == e) := by rw [hab, Bool.eq_iff_iff]; simp
  rw [E]
  clear E hab
  simp -dsimp
  repeat' ((with_reducible first | refine And.intro ?_ ?_ | refine guardVW_introTD (fun _ => ?_) (fun _ => ?_) | refine guardVW_introFD (fun _ => ?_) (fun _ => ?_) | refine condVW_introD (fun _ => ?_) (fun _ => ?_) | refine guardVW_introTE (fun _ => ?_) (fun _ _ _ => ?_) | refine guardVW_introFE (fun _ => ?_) (fun _ _ _ => ?_) | refine condVW_introE (fun _ => ?_) (fun _ _ _ => ?_) | refine guardVW_introTNE (fun _ _ _ => ?_) (fun _ => ?_) | refine guardVW_introFNE (fun _ _ _ => ?_) (fun _ => ?_) | refine condVW_introNE (fun _ _ _ => ?_) (fun _ => ?_) | refine guardVW_introTB (fun _ => ?_) (fun _ => ?_) | refine guardVW_introFB (fun _ => ?_) (fun _ => ?_) | refine condVW_introB (fun _ => ?_) (fun _ => ?_) | refine guardVW_introT (fun _ => ?_) (fun _ => ?_) | refine guardVW_introF (fun _ => ?_) (fun _ => ?_) | refine condVW_intro (fun _ => ?_) (fun _ => ?_) | refine acallsW_det (cc _) ?_ | refine callDW_intro (cc _) ?_ | refine acallsW_det (num18_ok _ _) ?_ | refine callDW_intro (num18_ok _ _) ?_) <;> simp -dsimp [*])
  all_goals exact tidy_same rfl ⟨by simp [*], rfl⟩
theorem known18_ok (H : List Blk) : ACalls Tryz.prog 5 [] H (fun x H' => x = .ret (Bo true) ∧ H' = H) := by
  refine acalls_tidy (acalls_of_vc (hn := fun _ => false) (od := fun _ => none) Tryz.func5 rfl (by kernel_rfl) ?_)
  have m1 := fun H => mv_ok 1 0 H
  have w1 := fun H => wd_ok 0 5 H
  have s1 := fun H => says_ok lA (sm_of (by decide)) 0 0 [0, 1] (by decide) H
  have s2 := fun H => says_ok lA (sm_of (by decide)) 1 16 [0, 0] (by decide) H
  have s3 := fun H => says_ok lA (sm_of (by decide)) (-1) 16 [0] (by decide) H
  have s4 := fun H => says_ok lB (sm_of (by decide)) 0 0 [0, 0] (by decide) H
  simp only [kA1, kA2, kA3, kB1, decide_true] at s1 s2 s3 s4
  simp only [lA, lB, Linear.cells, Int.sl, Line.sl, List.map_cons, List.map_nil] at s1 s2 s3 s4
  obtain ⟨ma, hma⟩ : ∃ ma, ma = mvL 1 0 := ⟨_, rfl⟩
  obtain ⟨wa, hwa⟩ : ∃ wa, wa = wdL 0 5 := ⟨_, rfl⟩
  obtain ⟨ea, hea⟩ : ∃ ea, ea = enL := ⟨_, rfl⟩
  have e1 := fun H => en_ok H
  rw [← hma, ← hwa, ← hea] at s1 s2 s3
  rw [← hma, ← hea] at s4
  rw [← hma] at m1
  rw [← hwa] at w1
  rw [← hea] at e1
  clear hma hwa hea
  simp only [Line.cells] at m1 w1 e1 s1 s2 s3 s4
  simp -dsimp
  repeat' ((with_reducible first | refine And.intro ?_ ?_ | refine guardVW_introTD (fun _ => ?_) (fun _ => ?_) | refine guardVW_introFD (fun _ => ?_) (fun _ => ?_) | refine condVW_introD (fun _ => ?_) (fun _ => ?_) | refine guardVW_introTE (fun _ => ?_) (fun _ _ _ => ?_) | refine guardVW_introFE (fun _ => ?_) (fun _ _ _ => ?_) | refine condVW_introE (fun _ => ?_) (fun _ _ _ => ?_) | refine guardVW_introTNE (fun _ _ _ => ?_) (fun _ => ?_) | refine guardVW_introFNE (fun _ _ _ => ?_) (fun _ => ?_) | refine condVW_introNE (fun _ _ _ => ?_) (fun _ => ?_) | refine guardVW_introTB (fun _ => ?_) (fun _ => ?_) | refine guardVW_introFB (fun _ => ?_) (fun _ => ?_) | refine condVW_introB (fun _ => ?_) (fun _ => ?_) | refine guardVW_introT (fun _ => ?_) (fun _ => ?_) | refine guardVW_introF (fun _ => ?_) (fun _ => ?_) | refine condVW_intro (fun _ => ?_) (fun _ => ?_) | refine acallsW_det (m1 _) ?_ | refine callDW_intro (m1 _) ?_ | refine acallsW_det (w1 _) ?_ | refine callDW_intro (w1 _) ?_ | refine acallsW_det (e1 _) ?_ | refine callDW_intro (e1 _) ?_ | refine acallsW_det (s1 _) ?_ | refine callDW_intro (s1 _) ?_ | refine acallsW_det (s2 _) ?_ | refine callDW_intro (s2 _) ?_ | refine acallsW_det (s3 _) ?_ | refine callDW_intro (s3 _) ?_ | refine acallsW_det (s4 _) ?_ | refine callDW_intro (s4 _) ?_) <;> simp -dsimp [*])
  all_goals exact tidy_same rfl ⟨rfl, rfl⟩
def much18 (l : Linear) (regs : List Int) : Bool := decide (60 < l.vars) || decide (120 < l.code.length) || decide (60 < l.params.length) || decide (60 < l.rets.length) || decide (600 < regs.length)
theorem much18_ok (l : Linear) (regs : List Int) (hs : l.Sm) (hr : regs.length ≤ 2^40) (H : List Blk) : ACalls Tryz.prog 6 [.agg l.cells, Int.sl regs] H (fun e H' => e = .ret (Bo (much18 l regs)) ∧ H' = H) := by
  refine acalls_tidy (acalls_of_vc (hn := fun _ => false) (od := fun _ => none) Tryz.func6 rfl (by kernel_rfl) ?_)
  simp -dsimp
  repeat' ((with_reducible first | refine And.intro ?_ ?_ | refine guardVW_introTD (fun _ => ?_) (fun _ => ?_) | refine guardVW_introFD (fun _ => ?_) (fun _ => ?_) | refine condVW_introD (fun _ => ?_) (fun _ => ?_) | refine guardVW_introTE (fun _ => ?_) (fun _ _ _ => ?_) | refine guardVW_introFE (fun _ => ?_) (fun _ _ _ => ?_) | refine condVW_introE (fun _ => ?_) (fun _ _ _ => ?_) | refine guardVW_introTNE (fun _ _ _ => ?_) (fun _ => ?_) | refine guardVW_introFNE (fun _ _ _ => ?_) (fun _ => ?_) | refine condVW_introNE (fun _ _ _ => ?_) (fun _ => ?_) | refine guardVW_introTB (fun _ => ?_) (fun _ => ?_) | refine guardVW_introFB (fun _ => ?_) (fun _ => ?_) | refine condVW_introB (fun _ => ?_) (fun _ => ?_) | refine guardVW_introT (fun _ => ?_) (fun _ => ?_) | refine guardVW_introF (fun _ => ?_) (fun _ => ?_) | refine condVW_intro (fun _ => ?_) (fun _ => ?_)) <;> simp -dsimp [*])
  all_goals refine tidy_same rfl ⟨congrArg (fun b => AE.ret (Bo b)) ?_, rfl⟩
  all_goals (rw [Bool.eq_iff_iff]; simp [much18]; omega)
end Go.Proofs
