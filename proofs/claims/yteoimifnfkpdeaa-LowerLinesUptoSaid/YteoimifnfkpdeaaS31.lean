/- The law about a line's instructions: what its function asks. -/
import Derived.Test.YteoimifnfkpdeaaS25toL2
set_option linter.unusedVariables false
set_option linter.unusedSimpArgs false
set_option maxHeartbeats 4000000
set_option maxRecDepth 100000
namespace Go.Proofs
open Go.Mu
theorem wrong_ask (x : Line) (h : x.kind ≠ 1) : wrongL (askLin x) = 0 ∨ wrongL (askLin x) = 2 := by
  unfold wrongL
  split
  · exact .inr rfl
  · split
    · rename_i h2; simp [askLin] at h2
    · split
      · rename_i h3
        unfold askLin at h3
        split at h3 <;> simp [longIns, h, lineOf] at h3
      · exact .inl rfl
theorem wrong_label (x : Line) (h : wrongL (askLin x) = 0) (h1 : ¬ x.kind = 1) (h2 : ¬ (x.kind = 2 ∨ x.kind = 3 ∨ x.kind = 4)) : x.label = 0 := by
  have hp : plainL 11 x = true := by
    unfold wrongL at h
    by_cases hok : (askLin x).ok = true
    · exact ask_plain hok
    · simp [hok] at h
  unfold plainL at hp
  simp only [not_or] at h2
  simp only [h1, h2.1, h2.2.1, h2.2.2, if_false] at hp
  split at hp
  · simp at hp; exact hp.2
  · cases hp
theorem Line_len (x : Line) : (lineMake x).1.length ≤ 2^40 := by
  unfold lineMake
  split
  · simp
  · split
    · simp
    · simp only [lineL, doesL]
      repeat' split
      all_goals simp
theorem lowerLines_ok (x : Line) (n : Int) (hw : wordIn x) (H : List Blk) : ACalls Try.prog 4 [.agg x.cells, I n] H (fun e H' => e = .ret (Bo true) ∧ H' = H) := by
  refine acalls_tidy (acalls_of_vc (hn := fun d => d == 1000043) (od := fun _ => none) Try.func4 rfl (by kernel_rfl) ?_)
  have c1 := fun H => reg_ok n H
  have c2 := rregs_ok
  have kn := known20_ok
  have tt : Hid (∀ (L : List Blk), Tidy H (fun e H' => e = AE.ret (Bo true) ∧ H' = H) (AE.ret (Bo true)) (H ++ L)) := ⟨fun L => tidy_same rfl ⟨rfl, rfl⟩⟩
  have lm : ∀ k, x.kind = k → ∀ H, ACalls Try.prog 18 [.agg [I k, I x.ins.kind, I x.ins.op, I x.ins.d, I x.ins.a, I x.ins.b, I x.ins.c, U x.ins.word, Bo x.ins.stack, I x.var, I x.label]] H (fun e H' => e = .ret (.tup [Amd.sl (lineMake x).1, I (lineMake x).2]) ∧ H' = H) := by
    intro k hk H; subst hk; exact Line_ok x H
  have a2 : ∀ k, x.kind = k → (k = 3 ∨ k = 4) → ∀ H, ACalls Try.prog 19 [.agg [I 11, nilS, nilS, I 0, .vs 11 [[I k, I x.ins.kind, I x.ins.op, I x.ins.d, I x.ins.a, I x.ins.b, I x.ins.c, U x.ins.word, Bo x.ins.stack, I x.var, I x.label], [I 2, I 0, I 0, I 0, I 0, I 0, I 0, U 0, Bo false, I 0, I x.label]]]] H (fun e H' => e = .ret (I (wrongL (askLin x))) ∧ H' = H) := by
    intro k hk hk2 H
    subst hk
    have e : askLin x = ⟨11, [], [], 0, [x, lineOf 2 0 x.label]⟩ := by simp [askLin, hk2]
    rw [e]
    exact acalls_weak (.cons (.aggL (.cons (.refl _) (.cons (.nil 1) (.cons (.nil 1) (.cons (.refl _) (.cons (.refl _) .nil)))))) .nil) (ask_ok ⟨11, [], [], 0, [x, lineOf 2 0 x.label]⟩ (by simp) (by simp) (by simp) (by intro y hy; simp at hy; rcases hy with rfl | rfl; exact hw; exact ⟨by simp [lineOf], by simp [lineOf]⟩) H)
  have a1 : ∀ k, x.kind = k → ¬ (k = 3 ∨ k = 4) → ∀ H, ACalls Try.prog 19 [.agg [I 11, nilS, nilS, I 0, .vx 11 [[I k, I x.ins.kind, I x.ins.op, I x.ins.d, I x.ins.a, I x.ins.b, I x.ins.c, U x.ins.word, Bo x.ins.stack, I x.var, I x.label]]]] H (fun e H' => e = .ret (I (wrongL (askLin x))) ∧ H' = H) := by
    intro k hk hk2 H
    subst hk
    have e : askLin x = ⟨11, [], [], 0, [x]⟩ := by simp [askLin, hk2]
    rw [e]
    exact acalls_weak (.cons (.aggL (.cons (.refl _) (.cons (.nil 1) (.cons (.nil 1) (.cons (.refl _) (.cons (.vx _ _) .nil)))))) .nil) (ask_ok ⟨11, [], [], 0, [x]⟩ (by simp) (by simp) (by simp) (by intro y hy; simp at hy; subst hy; exact hw) H)
  have l1 : ∀ k, x.kind = k → wrongL (askLin x) = 0 → ∀ H, ACalls Try.prog 22 [.agg [I k, I x.ins.kind, I x.ins.op, I x.ins.d, I x.ins.a, I x.ins.b, I x.ins.c, U x.ins.word, Bo x.ins.stack, I x.var, I x.label], I x.label] H (fun e H' => e = .ret (Amd.sl (lineL x x.label)) ∧ H' = H) := by
    intro k hk h0 H; subst hk; exact rline_ok x x.label (wrong_line h0) H
  have sm := fun H => sameAmds_ok (lineMake x).1 (lineL x x.label) (Line_len x) H
  have hwa := Hid.mk (wrong_ask x)
  simp -dsimp
  refine acallsW_det (c1 _) ?_
  by_cases hn : 0 ≤ n ∧ n < 11
  all_goals simp -dsimp [hn]
  all_goals repeat' ((with_reducible first | refine And.intro ?_ ?_ | refine guardVW_introTD (fun _ => ?_) (fun _ => ?_) | refine guardVW_introFD (fun _ => ?_) (fun _ => ?_) | refine condVW_introD (fun _ => ?_) (fun _ => ?_) | refine guardVW_introTE (fun _ => ?_) (fun _ _ _ => ?_) | refine guardVW_introFE (fun _ => ?_) (fun _ _ _ => ?_) | refine condVW_introE (fun _ => ?_) (fun _ _ _ => ?_) | refine guardVW_introTNE (fun _ _ _ => ?_) (fun _ => ?_) | refine guardVW_introFNE (fun _ _ _ => ?_) (fun _ => ?_) | refine condVW_introNE (fun _ _ _ => ?_) (fun _ => ?_) | refine guardVW_introTB (fun _ => ?_) (fun _ => ?_) | refine guardVW_introFB (fun _ => ?_) (fun _ => ?_) | refine condVW_introB (fun _ => ?_) (fun _ => ?_) | refine guardVW_introT (fun _ => ?_) (fun _ => ?_) | refine guardVW_introF (fun _ => ?_) (fun _ => ?_) | refine condVW_intro (fun _ => ?_) (fun _ => ?_) | refine acallsW_det (c2 _) ?_ | refine callDW_intro (c2 _) ?_ | refine acallsW_det (lm _ rfl _) ?_ | refine callDW_intro (lm _ rfl _) ?_ | refine acallsW_det (lm _ (by assumption) _) ?_ | refine callDW_intro (lm _ (by assumption) _) ?_ | refine acallsW_det (a2 _ (by assumption) (by omega) _) ?_ | refine callDW_intro (a2 _ (by assumption) (by omega) _) ?_ | refine acallsW_det (a1 _ rfl (by omega) _) ?_ | refine callDW_intro (a1 _ rfl (by omega) _) ?_ | refine acallsW_det (l1 _ rfl (by assumption) _) ?_ | refine callDW_intro (l1 _ rfl (by assumption) _) ?_ | refine acallsW_det (l1 _ (by assumption) (by assumption) _) ?_ | refine callDW_intro (l1 _ (by assumption) (by assumption) _) ?_ | refine acallsW_det (sm _) ?_ | refine callDW_intro (sm _) ?_ | refine acallsW_det (kn _) ?_ | refine callDW_intro (kn _) ?_) <;> simp -dsimp [*, regS_get])
  all_goals first
    | exact tt.out _
    | (exfalso
       clear lm a2 a1 l1 sm c1 c2 kn tt
       have hq := hwa.out
       have hq2 := wrong_label x
       clear hwa
       revert hq hq2
       unfold lineMake at *
       first | (simp_all; done) | (simp_all; omega) | grind)
end Go.Proofs
