/- amd.Reads walked. -/
import Derived.Test.YtganjkhdlehhdaaGreatFS9toAMQ
set_option linter.unusedVariables false
set_option linter.unusedSimpArgs false
set_option maxHeartbeats 4000000
set_option maxRecDepth 100000
namespace Go.Proofs
open Go.Mu
theorem compR_take (l : List Int) : (compRow l).take (Lib.compact l).length = Lib.compact l := by unfold compRow; simp
theorem reE_frz (l : List Int) : (reE l).flatten.all AV.frzB = true := by
  induction l with
  | nil => rfl
  | cons x l ih =>
    show ([I x] ++ (reE l).flatten).all AV.frzB = true
    rw [List.all_append, ih]; rfl
def rdHn (d : Nat) : Bool := d == 7 || d == 22 || d == 36 || d == 41 || d == 49 || d == 57 || d == 59 || d == 61
theorem areads_ok (i : Amd) (H : List Blk) : ACalls Tryz.prog 21 [.agg i.cells] H (fun e H' => e = .ret (.vs 1 (reE (readsE i))) ∧ H' = H) := by
  refine acalls_under fun hu _ => acalls_weakE (acalls_tidy (acalls_spare 1 (acalls_of_awp Tryz.func21 rfl (by kernel_rfl) ?_)))
  have cp := Lm.parts_ok
  have cm := fun H => amayone_ok i H
  have hRE : readsE i = if Lm.mayOne i = true then riseL (readsP i (partOf i)) else [] := rfl
  obtain ⟨E, hE⟩ : ∃ E, E = readsE i := ⟨_, rfl⟩
  rw [← hE] at hRE ⊢
  obtain ⟨p, hp⟩ : ∃ p, p = partOf i := ⟨_, rfl⟩
  rw [← hp] at hRE
  have hlk : (Lm.partsT.lookup i.op).getD 0 = p := hp.symm
  have hf := Lm.tab_find i.op Lm.partsT
  have hgd := Lm.getDI (List.lookup i.op Lm.partsT)
  rw [hlk] at hgd
  clear hlk hE hp
  have b1 : ∀ L, (H ++ .pend :: (.box 56 i.cells) :: L)[H.length + 1]? = some (.box 56 i.cells) := fun L => by simp
  simp only [Lm.Amd.cells] at b1 cm
  refine awp_cut (fun _ => false) (fun _ => none) (fun f M => M = H ++ [.pend, (.box 56 i.cells)] ∧ f 1 = .bp (H.length + 1) 0) (by kernel_rfl) ?_ ?_
  · simp -dsimp
  rintro f M ⟨hM, f1⟩
  rw [hM]
  clear hM M
  have mp : mapEs (H ++ [.pend, (.box 56 i.cells), (.map (Lm.tabM Lm.partsT))]) (.hm (H.length + 2)) = some (Lm.tabM Lm.partsT) := by simp [mapEs]
  have hl2 : (H ++ [Blk.pend, (.box 56 i.cells)]).length = H.length + 2 := by simp
  refine awp_cut rdHn (fun i => if i = 1 then some [(1, []), (2, []), (0, [1, 2]), (3, []), (4, [])] else none) (fun f M => M = H ++ [.pend, (.box 56 i.cells), (.map (Lm.tabM Lm.partsT))] ∧ f 1 = .bp (H.length + 1) 0 ∧ f 3 = I p) (by kernel_rfl) ?_ ?_
  · have cp2 := cp (H ++ [.pend, (.box 56 i.cells)])
    rw [hl2] at cp2
    simp -dsimp [f1, b1, rdHn]
    refine acallsW_of cp2 ?_
    rintro e _ ⟨rfl, rfl⟩
    simp -dsimp [f1, b1, rdHn, mp, hf, hgd]
  clear f1 f
  rintro f M ⟨hM, f1, f3⟩
  rw [hM]
  clear hM M mp
  by_cases hmf : Lm.mayOne i = false
  · have hmo : ¬ Lm.mayOne i = true := by rw [hmf]; decide
    rw [hmf] at cm
    rw [if_neg hmo] at hRE
    refine awp_all (hn := fun _ => false) (od := fun i => if i = 8 then none else none) (by kernel_rfl) ?_
    simp -dsimp [f1, b1]
    refine acallsW_det (cm _) ?_
    simp -dsimp
    rw [hRE]
    exact tidy_same rfl ⟨_, .nil 1, rfl, rfl⟩
  have hmo : Lm.mayOne i = true := by simpa using hmf
  rw [hmo] at cm
  rw [if_pos hmo] at hRE
  refine awp_cut rdHn (fun _ => none) (fun f M => M = H ++ [.pend, (.box 56 i.cells), (.map (Lm.tabM Lm.partsT))] ∧ f 1 = .bp (H.length + 1) 0 ∧ f 3 = I p) (by kernel_rfl) ?_ ?_
  · simp -dsimp [f1, f3, b1]
    refine acallsW_det (cm _) ?_
    simp -dsimp [f1, f3]
  clear f1 f3 f cm
  rintro f M ⟨hM, f1, f3⟩
  rw [hM]
  clear hM M
  obtain ⟨G, hG⟩ : ∃ G : List Int → List Blk, ∀ l, G l = H ++ [rgB l, (.box 56 i.cells), (.map (Lm.tabM Lm.partsT)), .box 61 [rgS H.length l]] := ⟨_, fun _ => rfl⟩
  have g0 : ∀ l, (G l)[H.length]? = some (rgB l) := fun l => by rw [hG]; simp
  have g3 : ∀ l, (G l)[H.length + 3]? = some (.box 61 [rgS H.length l]) := fun l => by rw [hG]; simp
  have g1 : ∀ l, (G l)[H.length + 1]? = some (.box 56 i.cells) := fun l => by rw [hG]; simp
  have gs : ∀ l l', ((G l).set H.length (rgB l')).set (H.length + 3) (.box 61 [rgS H.length l']) = G l' := fun l l' => by rw [hG, hG]; simp
  simp only [Lm.Amd.cells] at g1
  have ca : ∀ (is : Bool) (r : Int) (l : List Int), l.length ≤ 10 → ACalls Tryz.prog 55 [Bo is, I r, .bp (H.length + 3) 0] (G l) (fun e M' => e = .ret (.tup []) ∧ M' = G (addIf is r l)) := fun is r l hl => by
    have := radd_ok is r l (by omega) (M := G l) (by omega : H.length + 3 ≠ H.length) (g0 l) (g3 l)
    rw [gs] at this
    exact this
  refine awp_cut (fun _ => false) (fun _ => none) (fun f M => M = G [] ∧ f 1 = .bp (H.length + 1) 0 ∧ f 3 = I p ∧ f 4 = .bp (H.length + 3) 0) (by kernel_rfl) ?_ ?_
  · rw [hG]
    simp -dsimp [f1, f3]
    exact ⟨(ownB_nil _ _).symm, (ownS_nil _).symm⟩
  clear f1 f3 f b1
  rintro f M ⟨hM, f1, f3, f4⟩
  rw [hM]
  clear hM M
  refine awp_cut (fun _ => false) (fun _ => none) (fun f M => M = G [] ∧ f 1 = .bp (H.length + 1) 0 ∧ f 3 = I p ∧ f 4 = .bp (H.length + 3) 0 ∧ f 5 = .vs 1 [[I 1], [I 2], [I 3], [I 15]]) (by kernel_rfl) ?_ ?_
  · simp -dsimp [f1, f3, f4]
  clear f1 f3 f4 f
  rintro f M ⟨hM, f1, f3, f4, f5⟩
  rw [hM]
  clear hM M
  refine awp_cut (fun _ => false) (fun _ => none) (fun f M => M = G [] ∧ f 1 = .bp (H.length + 1) 0 ∧ f 3 = I p ∧ f 4 = .bp (H.length + 3) 0 ∧ f 5 = .vs 1 [[I 1], [I 2], [I 3], [I 15]] ∧ f 6 = .fn (.func 55) [] [.bp (H.length + 3) 0]) (by kernel_rfl) ?_ ?_
  · simp -dsimp [f1, f3, f4, f5]
  clear f1 f3 f4 f5 f
  rintro f M ⟨hM, f1, f3, f4, f5, f6⟩
  rw [hM]
  clear hM M
  have cc := acont_ok
  have bp2 : (IntKind.i64.wrap ↑((p % 2 ^ IntKind.i64.bits).toNat &&& 2 % 2 ^ IntKind.i64.bits) != 0) = Lm.bitP p 2 := by simp [Lm.bitP, IntKind.bits]
  have bp1 : (IntKind.i64.wrap ↑((p % 2 ^ IntKind.i64.bits).toNat &&& 1 % 2 ^ IntKind.i64.bits) != 0) = Lm.bitP p 1 := by simp [Lm.bitP, IntKind.bits]
  unfold readsP at hRE
  obtain ⟨op, bin, shift, cond, dst, src, imm, base, index, hasBase, hasIndex, disp, label⟩ := i
  simp only at hRE
  have cc := fun H => cc op H
  obtain ⟨d2, hd2⟩ : ∃ d, d = Lm.bitP p 2 := ⟨_, rfl⟩
  obtain ⟨d1, hd1⟩ : ∃ d, d = Lm.bitP p 1 := ⟨_, rfl⟩
  obtain ⟨fr, hfr⟩ : ∃ d, d = freshO op := ⟨_, rfl⟩
  rw [← hd2] at bp2 hRE
  rw [← hd1] at bp1 hRE
  rw [← hfr] at cc hRE
  obtain ⟨e7, he7⟩ : ∃ d, d = (op == 7) := ⟨_, rfl⟩
  rw [← he7] at hRE
  replace he7 := he7.symm
  obtain ⟨L1, hL1⟩ : ∃ L, L = addIf d2 src [] := ⟨_, rfl⟩
  rw [← hL1] at hRE
  obtain ⟨L2, hL2⟩ : ∃ L, L = addIf (d1 && !fr) dst L1 := ⟨_, rfl⟩
  rw [← hL2] at hRE
  obtain ⟨L3, hL3⟩ : ∃ L, L = addIf e7 1 L2 := ⟨_, rfl⟩
  rw [← hL3] at hRE
  obtain ⟨L4, hL4⟩ : ∃ L, L = addIf hasBase base L3 := ⟨_, rfl⟩
  rw [← hL4] at hRE
  obtain ⟨L5, hL5⟩ : ∃ L, L = addIf hasIndex index L4 := ⟨_, rfl⟩
  rw [← hL5] at hRE
  have al : ∀ b r l, (addIf b r l).length ≤ l.length + 1 := fun b r l => by unfold addIf; split <;> simp
  have n1 : L1.length ≤ 1 := by rw [hL1]; exact al _ _ _
  have n2 : L2.length ≤ 2 := by rw [hL2]; have := al (d1 && !fr) dst L1; omega
  have n3 : L3.length ≤ 3 := by rw [hL3]; have := al e7 1 L2; omega
  have n4 : L4.length ≤ 4 := by rw [hL4]; have := al hasBase base L3; omega
  have n5 : L5.length ≤ 5 := by rw [hL5]; have := al hasIndex index L4; omega
  have c1 := ca d2 src [] (by simp)
  have c2 := ca (d1 && !fr) dst L1 (by omega)
  have c3 := ca e7 1 L2 (by omega)
  have c4 := ca hasBase base L3 (by omega)
  have c5 := ca hasIndex index L4 (by omega)
  rw [← hL1] at c1
  rw [← hL2] at c2
  rw [← hL3] at c3
  rw [← hL4] at c4
  rw [← hL5] at c5
  clear hL1 hL2 hL3 hL4 hL5 al hd1 hd2 hfr ca
  have okf : okFn Tryz.prog 55 = true := by kernel_rfl
  refine awp_cut rdHn (fun _ => none) (fun f M => M = G L1 ∧ f 1 = .bp (H.length + 1) 0 ∧ f 3 = I p ∧ f 4 = .bp (H.length + 3) 0 ∧ f 5 = .vs 1 [[I 1], [I 2], [I 3], [I 15]] ∧ f 6 = .fn (.func 55) [] [.bp (H.length + 3) 0]) (by kernel_rfl) ?_ ?_
  · simp -dsimp [f1, f3, f4, f5, f6, g1, bp2, okf, rdHn]
    refine acallsW_of c1 ?_
    rintro e _ ⟨rfl, rfl⟩
    simp -dsimp [f1, f3, f4, f5, f6]
  clear f1 f3 f4 f5 f6 f
  rintro f M ⟨hM, f1, f3, f4, f5, f6⟩
  rw [hM]
  clear hM M
  refine awp_cut rdHn (fun _ => none) (fun f M => M = G L2 ∧ f 1 = .bp (H.length + 1) 0 ∧ f 3 = I p ∧ f 4 = .bp (H.length + 3) 0 ∧ f 5 = .vs 1 [[I 1], [I 2], [I 3], [I 15]] ∧ f 6 = .fn (.func 55) [] [.bp (H.length + 3) 0]) (by kernel_rfl) ?_ ?_
  · cases d1
    · simp -dsimp [f1, f3, f4, f5, f6, g1, bp1, okf, rdHn]
      refine acallsW_of c2 ?_
      rintro e _ ⟨rfl, rfl⟩
      simp -dsimp [f1, f3, f4, f5, f6]
    · simp -dsimp [f1, f3, f4, f5, f6, g1, bp1, okf, rdHn]
      refine callDW_intro (cc _) ?_
      simp -dsimp [f1, f3, f4, f5, f6, g1, bp1, okf, rdHn]
      refine acallsW_of c2 ?_
      rintro e _ ⟨rfl, rfl⟩
      simp -dsimp [f1, f3, f4, f5, f6]
  clear f1 f3 f4 f5 f6 f
  rintro f M ⟨hM, f1, f3, f4, f5, f6⟩
  rw [hM]
  clear hM M
  refine awp_cut rdHn (fun _ => none) (fun f M => M = G L3 ∧ f 1 = .bp (H.length + 1) 0 ∧ f 3 = I p ∧ f 4 = .bp (H.length + 3) 0 ∧ f 5 = .vs 1 [[I 1], [I 2], [I 3], [I 15]] ∧ f 6 = .fn (.func 55) [] [.bp (H.length + 3) 0]) (by kernel_rfl) ?_ ?_
  · simp -dsimp [f1, f3, f4, f5, f6, g1, he7, okf, rdHn]
    refine acallsW_of c3 ?_
    rintro e _ ⟨rfl, rfl⟩
    simp -dsimp [f1, f3, f4, f5, f6]
  clear f1 f3 f4 f5 f6 f
  rintro f M ⟨hM, f1, f3, f4, f5, f6⟩
  rw [hM]
  clear hM M
  refine awp_cut rdHn (fun _ => none) (fun f M => M = G L4 ∧ f 1 = .bp (H.length + 1) 0 ∧ f 3 = I p ∧ f 4 = .bp (H.length + 3) 0 ∧ f 5 = .vs 1 [[I 1], [I 2], [I 3], [I 15]] ∧ f 6 = .fn (.func 55) [] [.bp (H.length + 3) 0]) (by kernel_rfl) ?_ ?_
  · simp -dsimp [f1, f3, f4, f5, f6, g1, okf, rdHn]
    refine acallsW_of c4 ?_
    rintro e _ ⟨rfl, rfl⟩
    simp -dsimp [f1, f3, f4, f5, f6]
  clear f1 f3 f4 f5 f6 f
  rintro f M ⟨hM, f1, f3, f4, f5, f6⟩
  rw [hM]
  clear hM M
  refine awp_cut rdHn (fun _ => none) (fun f M => M = G L5 ∧ f 1 = .bp (H.length + 1) 0 ∧ f 3 = I p ∧ f 4 = .bp (H.length + 3) 0 ∧ f 5 = .vs 1 [[I 1], [I 2], [I 3], [I 15]] ∧ f 6 = .fn (.func 55) [] [.bp (H.length + 3) 0]) (by kernel_rfl) ?_ ?_
  · simp -dsimp [f1, f3, f4, f5, f6, g1, okf, rdHn]
    refine acallsW_of c5 ?_
    rintro e _ ⟨rfl, rfl⟩
    simp -dsimp [f1, f3, f4, f5, f6]
  clear f1 f3 f4 f5 f6 f
  rintro f M ⟨hM, f1, f3, f4, f5, f6⟩
  rw [hM]
  clear hM M
  have hlen := (sortI_perm L5).length_eq
  refine awp_all (hn := rdHn) (od := fun _ => none) (by kernel_rfl) ?_
  by_cases hne : L5 = []
  · subst hne
    have q3 := g3 []
    rw [show rgS H.length [] = nilS from ownS_nil _] at q3
    simp -dsimp [f4, q3]
    refine acallsW_det (rsort0_ok _) ?_
    simp -dsimp [f4, q3]
    refine acallsW_det (rcomp0_ok _) ?_
    simp -dsimp
    rw [hRE, hG]
    exact tidy_same rfl ⟨_, .nil 1, rfl, rfl⟩
  · have q3 := g3 L5
    have q0 := g0 L5
    rw [show rgS H.length L5 = .hs H.length 0 L5.length L5.length from by simp [ownS, hne]] at q3
    rw [show rgB L5 = .row 52 1 (reE L5) from by simp [ownB, hne]] at q0
    have cs := rsort_ok L5 (by omega) H.length (G L5) q0
    simp -dsimp [f4, q3]
    refine acallsW_of cs ?_
    rintro e _ ⟨rfl, rfl⟩
    have q3b : ((G L5).set H.length (.row 52 1 (reE (sortI L5))))[H.length + 3]? = some (.box 61 [.hs H.length 0 L5.length L5.length]) := by rw [List.getElem?_set_ne (by omega)]; exact q3
    have cr := rcomp_ok (sortI L5) (by omega) H.length ((G L5).set H.length (.row 52 1 (reE (sortI L5)))) (by rw [List.getElem?_set_self (lt_of_get q0)])
    rw [hlen] at cr
    simp -dsimp [f4, q3b]
    refine acallsW_of cr ?_
    rintro e _ ⟨rfl, rfl⟩
    simp -dsimp
    have hw : ∃ L, (G L5).set H.length (.row 52 1 (reE (compRow (sortI L5)))) = H ++ L := by
      rw [hG, List.set_append_right _ _ (Nat.le_refl _)]
      exact ⟨_, rfl⟩
    have hr : ((G L5).set H.length (.row 52 1 (reE (compRow (sortI L5)))))[H.length]? = some (.row 52 1 (reE (compRow (sortI L5)))) := by rw [List.getElem?_set_self (lt_of_get q0)]
    have hcr : (compRow (sortI L5)).length = L5.length := by rw [compRow_len, hlen]
    have hz : (reE (compRow (sortI L5))).flatten.all AV.frzB = true := by
      have this := reE_frz
      exact this _
    have := tidy_row1 (R := fun e H' => e = .ret (.vs 1 (reE E)) ∧ H' = H) (h := some H.length) (m := (Lib.compact (sortI L5)).length) (n := L5.length) hu (Own.mk hw (fun k hk => by cases hk; exact hr) (fun h => by cases h) (fun k hk => by cases hk; exact Nat.le_refl _)) hz (by rw [List.length_map]; exact hcr.symm) ⟨by
      rw [← List.map_take, compR_take, compact_sort, hRE], rfl⟩
    exact this
end Go.Proofs
