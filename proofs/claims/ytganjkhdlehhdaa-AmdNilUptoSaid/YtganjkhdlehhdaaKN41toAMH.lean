/- May made code be. -/
import Derived.Test.YtganjkhdlehhdaaKN0toKN40
import Derived.Test.YtganjkhdlehhdaaFwJmptoAMG
import Derived.Test.YtganjkhdlehhdaaFwUtoFwBox
set_option linter.unusedVariables false
set_option linter.unusedSimpArgs false
set_option maxHeartbeats 4000000
set_option maxRecDepth 100000
namespace Go.Proofs.Lm
open Go.Mu
theorem mayCode_ok (l : List Amd) (hl : l.length ≤ 2^40) (H : List Blk) : ACalls Try.prog 7 [Amd.sl l] H (fun e H' => e = .ret (Bo (mayA l)) ∧ H' = H) := by
  refine acalls_tidy (acalls_of_vc (hn := fun _ => false) (od := fun _ => none) Try.func7 rfl (by kernel_rfl) ?_)
  simp -dsimp
  refine acallsW_of (open_ok l hl _) (fun e H' hq => ?_)
  obtain ⟨t, C, rfl, rfl, -⟩ := hq
  simp -dsimp
  exact tidy_same rfl ⟨rfl, rfl⟩
end Go.Proofs.Lm
namespace Go.Proofs
open Go.Mu
theorem run11 (b : List Int) : runA [] code5 11 regs0 b = (⟨regs0, ⟨false, true, false, false, true⟩, 4, 11, [⟨true, true, 0⟩, ⟨true, true, 0⟩, ⟨true, true, 0⟩, ⟨true, true, 0⟩, ⟨true, false, 0⟩], b⟩, 7) := by kernel_rfl
def tripT : FT := .fork [0, 1, 2]
  (.alt 3 [0, 1, 2] (.fork [] (.alt 4 [0, 1, 2] (.lin [(5, [0, 1, 2]), (6, [1, 2]), (7, [2]), (8, [])]) (.alt 5 [0, 1, 2] (.lin [(4, [0, 1, 2]), (6, [1, 2]), (7, [2]), (8, [])]) .none)))
  (.alt 4 [0, 1, 2] (.fork [] (.alt 3 [0, 1, 2] (.lin [(5, [0, 1, 2]), (6, [1, 2]), (7, [2]), (8, [])]) (.alt 5 [0, 1, 2] (.lin [(3, [0, 1, 2]), (6, [1, 2]), (7, [2]), (8, [])]) .none)))
  (.alt 5 [0, 1, 2] (.fork [] (.alt 3 [0, 1, 2] (.lin [(4, [0, 1, 2]), (6, [1, 2]), (7, [2]), (8, [])]) (.alt 4 [0, 1, 2] (.lin [(3, [0, 1, 2]), (6, [1, 2]), (7, [2]), (8, [])]) .none)))
  .none)))
theorem nil_law (H : List Blk) : ACalls Try.prog 4 [] H (fun e H' => e = .ret (Bo true) ∧ H' = H) := by
  refine acalls_tidy (acalls_of_awp Try.func4 rfl (by kernel_rfl) ?_)
  have w0 : ∀ r, Wd (vg regs0 r) := all_W (by decide)
  have zl : (Regs regs0) = [U 0, U 0, U 0, U 0, U 0, U 0, U 0, U 0, U 0, U 0, U 0, U 0, U 0, U 0, U 0, U 0] := rfl
  have rn := fun H => arun_nil nilS (Regs regs0) rfl 1 H
  have sn := fun H => astep_nil nilS stZ rfl H
  have rb := fun {H : List Blk} {k kb : Nat} {b : List Int} (F : Int) (hF : F < 0 ∨ 64000000 < F) (m : MemAt H k kb [] b) => acalls_weak (args := [nilS, .agg (Regs regs0), .bp k 0, I F]) (WeakL.cons (.nil 13) (WeakL.refl _)) (arun_bad [] (by simp) (Regs regs0) rfl F (.inr hF) (by simp) m)
  have r5 := fun {H : List Blk} {k kb : Nat} {b : List Int} (m : MemAt H k kb [] b) => arun_ok code5 may5 (imm_W (by decide)) regs0 rfl w0 [] (by simp) no_ok 11 (by omega) m
  simp only [run11] at r5
  have c5 := law19_code
  have cn := law19_num
  have hst : stZ = [U 0, U 0, U 0, U 0, U 0, U 0, U 0, U 0, U 0, U 0, U 0, U 0, U 0, U 0, U 0, U 0, Bo false, Bo false, Bo false, Bo false, Bo false, I 0, I 0] := rfl
  have hrz : raZ = [U 0, U 0, U 0, U 0, U 0, U 0, U 0, U 0, U 0, U 0, U 0, U 0, U 0, U 0, U 0, U 0, Bo false, Bo false, Bo false, Bo false, Bo false, I 0, I 0, nilS, I 0] := rfl
  rw [zl] at rn
  rw [hrz] at rn
  rw [hst] at sn
  refine awp_cut (fun _ => false) (fun _ => none) (fun f M => M = H ++ []) (by kernel_rfl) ?_ ?_
  · simp -dsimp
  rintro f M hM
  refine awp_cut (fun _ => false) (fun _ => none) (fun f M => (∃ L, M = H ++ L) ∧ f 2 = nilP ∧ f 3 = I 1) (by kernel_rfl) ?_ ?_
  · rw [hM]
    simp -dsimp
    refine acallsW_det (rn _) ?_
    simp -dsimp
  clear hM M f
  rintro f M ⟨hM, f2, f3⟩
  refine awp_cut (fun _ => false) (fun _ => none) (fun f M => (∃ L, M = H ++ L) ∧ f 2 = nilP ∧ f 3 = I 1 ∧ f 6 = I 1) (by kernel_rfl) ?_ ?_
  · obtain ⟨L, hL⟩ := hM
    rw [hL]
    simp -dsimp [f2, f3]
    refine acallsW_det (sn _) ?_
    simp -dsimp [f2, f3]
  clear hM M f2 f3 f
  rintro f M ⟨⟨L, hL⟩, f2, f3, f6⟩
  refine awp_cut (fun _ => false) (fun _ => none) (fun f M' => M' = GM M [] zeroB ∧ f 7 = .bp (M.length + 1) 0 ∧ f 2 = nilP ∧ f 3 = I 1 ∧ f 6 = I 1) (by kernel_rfl) ?_ ?_
  · simp -dsimp [f2, f3, f6]
    refine acallsW_of (mnew0_ok _) ?_
    rintro e _ ⟨rfl, rfl⟩
    simp -dsimp [f2, f3, f6]
  clear f2 f3 f6 f
  rintro f Mx ⟨hMx, f7, f2, f3, f6⟩
  have m0 : MemAt Mx (M.length + 1) M.length [] zeroB := by rw [hMx]; exact gm_at' M [] zeroB_len
  have pre : ∃ L, Mx = H ++ L := ⟨_, by rw [hMx, hL, GM, List.append_assoc]⟩
  clear hMx hL L
  obtain ⟨k1, hk1⟩ : ∃ k1, k1 = M.length + 1 := ⟨_, rfl⟩
  obtain ⟨q1, hq1⟩ : ∃ q1, q1 = M.length := ⟨_, rfl⟩
  rw [← hk1] at m0 f7
  rw [← hq1] at m0
  clear hk1 hq1
  clear M
  refine awp_cut (fun _ => false) (fun _ => none) (fun f M' => (∃ L, M' = Mx ++ L) ∧ f 11 = I 2 ∧ f 7 = .bp k1 0 ∧ f 2 = nilP ∧ f 3 = I 1 ∧ f 6 = I 1) (by kernel_rfl) ?_ ?_
  · have rb1 := rb (-1) (.inl (by decide)) m0
    rw [zl, hrz] at rb1
    simp -dsimp [f2, f3, f6, f7]
    refine acallsW_det rb1 ?_
    simp -dsimp [f2, f3, f6, f7]
  clear f2 f3 f6 f7 f
  rintro f My ⟨⟨L, hMy⟩, f11, f7, f2, f3, f6⟩
  replace m0 : MemAt My k1 q1 [] zeroB := by rw [hMy]; exact ⟨get_app_old m0.me _, get_app_old m0.bytes _, m0.len⟩
  replace pre : ∃ L, My = H ++ L := by obtain ⟨L', hL⟩ := pre; exact ⟨L' ++ L, by rw [hMy, hL, List.append_assoc]⟩
  clear hMy L
  clear Mx
  refine awp_cut (fun _ => false) (fun _ => none) (fun f M' => (∃ L, M' = My ++ L) ∧ f 14 = I 2 ∧ f 11 = I 2 ∧ f 7 = .bp k1 0 ∧ f 2 = nilP ∧ f 3 = I 1 ∧ f 6 = I 1) (by kernel_rfl) ?_ ?_
  · have rb1 := rb 64000001 (.inr (by decide)) m0
    rw [zl, hrz] at rb1
    simp -dsimp [f2, f3, f6, f7, f11]
    refine acallsW_det rb1 ?_
    simp -dsimp [f2, f3, f6, f7, f11]
  clear f2 f3 f6 f7 f11 f
  rintro f Mx ⟨⟨L, hMy⟩, f14, f11, f7, f2, f3, f6⟩
  replace m0 : MemAt Mx k1 q1 [] zeroB := by rw [hMy]; exact ⟨get_app_old m0.me _, get_app_old m0.bytes _, m0.len⟩
  replace pre : ∃ L, Mx = H ++ L := by obtain ⟨L', hL⟩ := pre; exact ⟨L' ++ L, by rw [hMy, hL, List.append_assoc]⟩
  clear hMy L
  clear My
  obtain ⟨E5, hE5⟩ : ∃ E5, E5 = raC ⟨regs0, ⟨false, true, false, false, true⟩, 4, 11, [⟨true, true, 0⟩, ⟨true, true, 0⟩, ⟨true, true, 0⟩, ⟨true, true, 0⟩, ⟨true, false, 0⟩], zeroB⟩ 7 := ⟨_, rfl⟩
  refine awp_cut (fun _ => false) (fun _ => none) (fun f M' => (∃ k15 L, M' = Mx ++ L ∧ f 15 = .bp k15 0 ∧ M'[k15]? = some (.box 36 E5)) ∧ f 17 = I 0 ∧ f 14 = I 2 ∧ f 11 = I 2 ∧ f 2 = nilP ∧ f 3 = I 1 ∧ f 6 = I 1) (by kernel_rfl) ?_ ?_
  · rw [hE5]
    simp -dsimp [f2, f3, f6, f7, f11, f14]
    refine acallsW_det (c5 _) ?_
    simp -dsimp [f2, f3, f6, f7, f11, f14]
    refine acallsW_of (r5 m0) ?_
    rintro e _ ⟨rfl, X, Y', rfl⟩
    simp -dsimp [f2, f3, f6, f11, f14, stC, regs0]
    rfl
  clear f2 f3 f6 f7 f11 f14 f
  rintro f My ⟨⟨k15, L, hMy, f15, g15⟩, f17, f14, f11, f2, f3, f6⟩
  replace pre : ∃ L, My = H ++ L := by obtain ⟨L', hL⟩ := pre; exact ⟨L' ++ L, by rw [hMy, hL, List.append_assoc]⟩
  clear hMy L m0
  clear Mx
  obtain ⟨lb, hlb⟩ : ∃ lb : Amd, lb = { am0 with op := 19, label := 1 } := ⟨_, rfl⟩
  obtain ⟨one, hone⟩ : ∃ one : Amd, one = { am0 with op := 6, bin := 1, imm := 2147483647 } := ⟨_, rfl⟩
  refine awp_cut (fun _ => false) (fun _ => none) (fun f M' => M' = My ++ [.box 53 lb.cells] ∧ f 18 = .bp My.length 0 ∧ f 15 = .bp k15 0 ∧ f 17 = I 0 ∧ f 14 = I 2 ∧ f 11 = I 2 ∧ f 2 = nilP ∧ f 3 = I 1 ∧ f 6 = I 1) (by kernel_rfl) ?_ ?_
  · rw [hlb]
    simp -dsimp [f2, f3, f6, f11, f14, f15, f17]
  clear f2 f3 f6 f11 f14 f15 f17 f
  rintro f Mz ⟨hMz, f18, f15, f17, f14, f11, f2, f3, f6⟩
  refine awp_cut (fun _ => false) (fun _ => none) (fun f M' => M' = My ++ [.box 53 lb.cells, .box 53 one.cells] ∧ f 19 = .bp (My.length + 1) 0 ∧ f 18 = .bp My.length 0 ∧ f 15 = .bp k15 0 ∧ f 17 = I 0 ∧ f 14 = I 2 ∧ f 11 = I 2 ∧ f 2 = nilP ∧ f 3 = I 1 ∧ f 6 = I 1) (by kernel_rfl) ?_ ?_
  · rw [hone, hMz]
    simp -dsimp [f2, f3, f6, f11, f14, f15, f17, f18]
  clear f2 f3 f6 f11 f14 f15 f17 f18 f hMz Mz
  rintro f Mz ⟨hMz, f19, f18, f15, f17, f14, f11, f2, f3, f6⟩
  have g19 : Mz[My.length + 1]? = some (.box 53 one.cells) := by rw [hMz]; simp
  have g18 : Mz[My.length]? = some (.box 53 lb.cells) := by rw [hMz]; simp
  replace g15 : Mz[k15]? = some (.box 36 E5) := by rw [hMz]; exact get_app_old g15 _
  replace pre : ∃ L, Mz = H ++ L := by obtain ⟨L', hL⟩ := pre; exact ⟨L' ++ _, by rw [hMz, hL, List.append_assoc]⟩
  have n19 : My.length + 1 < Mz.length := lt_of_get g19
  have n15 : k15 < Mz.length := lt_of_get g15
  obtain ⟨k18, hk18⟩ : ∃ k, k = My.length := ⟨_, rfl⟩
  rw [← hk18] at f19 f18 g19 g18 n19
  clear hMz hk18
  clear My
  have g19L := fun L => get_app_old g19 L
  refine awp_cutA (fun f M' => (∃ a b c, M' = Mz ++ [.box 53 one.cells, .box 53 one.cells, .box 53 one.cells] ∧ f 20 = .bp a 0 ∧ f 21 = .bp b 0 ∧ f 22 = .bp c 0 ∧ a ≠ b ∧ a ≠ c ∧ b ≠ c ∧ Mz.length ≤ a ∧ Mz.length ≤ b ∧ Mz.length ≤ c ∧ a < Mz.length + 3 ∧ b < Mz.length + 3 ∧ c < Mz.length + 3) ∧ f 19 = .bp (k18 + 1) 0 ∧ f 18 = .bp k18 0 ∧ f 15 = .bp k15 0 ∧ f 17 = I 0 ∧ f 14 = I 2 ∧ f 11 = I 2 ∧ f 2 = nilP ∧ f 3 = I 1 ∧ f 6 = I 1) ?_ ?_
  · obtain ⟨oc, hoc⟩ : ∃ oc, oc = one.cells := ⟨_, rfl⟩
    have hoc13 : ∃ c0 c1 c2 c3 c4 c5 c6 c7 c8 c9 c10 c11 c12, oc = [c0, c1, c2, c3, c4, c5, c6, c7, c8, c9, c10, c11, c12] := ⟨_, _, _, _, _, _, _, _, _, _, _, _, _, hoc⟩
    rw [← hoc] at g19 g19L ⊢
    simp only [Lm.Amd.cells] at hoc
    rw [hoc] at g19 g19L ⊢
    refine awp_region_tree (fun d => false) tripT (by kernel_rfl) ?_
    simp -dsimp [tripT, f2, f3, f6, f11, f14, f15, f17, f18, f19, g19, g19L]
  clear f2 f3 f6 f11 f14 f15 f17 f18 f19 f
  rintro f Mc ⟨⟨a, b, c, hMc, f20, f21, f22, nab, nac, nbc, la, lb', lc, ua, ub, uc⟩, f19, f18, f15, f17, f14, f11, f2, f3, f6⟩
  obtain ⟨mo, hmo⟩ : ∃ mo : Amd, mo = { am0 with op := 6, bin := 1, imm := 2147483648 } := ⟨_, rfl⟩
  obtain ⟨le, hle⟩ : ∃ le : Amd, le = { am0 with op := 6, bin := 1, imm := 18446744071562067968 } := ⟨_, rfl⟩
  obtain ⟨ls, hls⟩ : ∃ ls : Amd, ls = { am0 with op := 6, bin := 1, imm := 18446744071562067967 } := ⟨_, rfl⟩
  have pm : Lm.mayOne one = true ∧ Lm.mayOne mo = false ∧ Lm.mayOne le = true ∧ Lm.mayOne ls = false := by rw [hone, hmo, hle, hls]; exact ⟨by kernel_rfl, by kernel_rfl, by kernel_rfl, by kernel_rfl⟩
  have pl : Lm.mayA [lb, lb] = false ∧ Lm.mayA [lb] = true := by rw [hlb]; exact ⟨by kernel_rfl, by kernel_rfl⟩
  refine awp_cut (fun _ => false) (fun _ => none) (fun f M' => ((∃ L, M' = Mz ++ L) ∧ M'[a]? = some (.box 53 mo.cells) ∧ M'[b]? = some (.box 53 le.cells) ∧ M'[c]? = some (.box 53 ls.cells)) ∧ f 20 = .bp a 0 ∧ f 21 = .bp b 0 ∧ f 22 = .bp c 0 ∧ f 19 = .bp (k18 + 1) 0 ∧ f 18 = .bp k18 0 ∧ f 15 = .bp k15 0 ∧ f 17 = I 0 ∧ f 14 = I 2 ∧ f 11 = I 2 ∧ f 2 = nilP ∧ f 3 = I 1 ∧ f 6 = I 1) (by kernel_rfl) ?_ ?_
  · rw [hone] at hMc
    rw [hMc, hmo, hle, hls]
    have c6 : (a = Mz.length ∧ b = Mz.length + 1 ∧ c = Mz.length + 2) ∨ (a = Mz.length ∧ c = Mz.length + 1 ∧ b = Mz.length + 2) ∨ (b = Mz.length ∧ a = Mz.length + 1 ∧ c = Mz.length + 2) ∨ (b = Mz.length ∧ c = Mz.length + 1 ∧ a = Mz.length + 2) ∨ (c = Mz.length ∧ a = Mz.length + 1 ∧ b = Mz.length + 2) ∨ (c = Mz.length ∧ b = Mz.length + 1 ∧ a = Mz.length + 2) := by omega
    clear hMc nab nac nbc la lb' lc ua ub uc
    rcases c6 with ⟨rfl, rfl, rfl⟩ | ⟨rfl, rfl, rfl⟩ | ⟨rfl, rfl, rfl⟩ | ⟨rfl, rfl, rfl⟩ | ⟨rfl, rfl, rfl⟩ | ⟨rfl, rfl, rfl⟩
    all_goals simp -dsimp [f2, f3, f6, f11, f14, f15, f17, f18, f19, f20, f21, f22, spl]
  clear f2 f3 f6 f11 f14 f15 f17 f18 f19 f20 f21 f22 f hMc nab nac nbc la lb' lc ua ub uc
  clear Mc
  rintro f Mc ⟨⟨⟨L, hMc⟩, ga, gb, gc⟩, f20, f21, f22, f19, f18, f15, f17, f14, f11, f2, f3, f6⟩
  obtain ⟨ix, hix⟩ : ∃ ix : Amd, ix = { am0 with op := 3, index := 4, hasIndex := true } := ⟨_, rfl⟩
  refine awp_cut (fun _ => false) (fun _ => none) (fun f M' => M' = Mc ++ [.box 53 ix.cells] ∧ f 23 = .bp Mc.length 0 ∧ f 20 = .bp a 0 ∧ f 21 = .bp b 0 ∧ f 22 = .bp c 0 ∧ f 19 = .bp (k18 + 1) 0 ∧ f 18 = .bp k18 0 ∧ f 15 = .bp k15 0 ∧ f 17 = I 0 ∧ f 14 = I 2 ∧ f 11 = I 2 ∧ f 2 = nilP ∧ f 3 = I 1 ∧ f 6 = I 1) (by kernel_rfl) ?_ ?_
  · rw [hix]
    simp -dsimp [f2, f3, f6, f11, f14, f15, f17, f18, f19, f20, f21, f22]
  clear f2 f3 f6 f11 f14 f15 f17 f18 f19 f20 f21 f22 f
  rintro f Md ⟨hMd, f23, f20, f21, f22, f19, f18, f15, f17, f14, f11, f2, f3, f6⟩
  have old : ∀ {k : Nat} {x}, Mz[k]? = some x → Md[k]? = some x := fun h => by rw [hMd, hMc, List.append_assoc]; exact get_app_old h _
  replace g15 := old g15
  replace g18 := old g18
  replace g19 := old g19
  replace ga := get_app_old ga [.box 53 ix.cells]
  replace gb := get_app_old gb [.box 53 ix.cells]
  replace gc := get_app_old gc [.box 53 ix.cells]
  rw [← hMd] at ga gb gc
  have gx : Md[Mc.length]? = some (.box 53 ix.cells) := by rw [hMd]; simp
  replace pre : ∃ L, Md = H ++ L := by obtain ⟨L', hL⟩ := pre; exact ⟨_, by rw [hMd, hMc, hL, List.append_assoc, List.append_assoc]⟩
  obtain ⟨k23, hk23⟩ : ∃ k, k = Mc.length := ⟨_, rfl⟩
  rw [← hk23] at f23 gx
  clear hMd hMc old g19L
  clear hk23
  simp only [raC, stC, regs0, List.map_cons, List.map_nil, List.cons_append, List.nil_append, Se.cells] at hE5
  rw [hE5] at g15
  clear hE5 n15 n19
  clear E5
  have pix : Lm.mayOne ix = false := by rw [hix]; kernel_rfl
  have pj : Lm.mayA [{ am0 with op := 17 }] = false := by kernel_rfl
  have pz : Lm.mayOne am0 = false := by kernel_rfl
  have cO := fun H => amayone_ok one H
  have cM := fun H => amayone_ok mo H
  have cE := fun H => amayone_ok le H
  have cS := fun H => amayone_ok ls H
  have cX := fun H => amayone_ok ix H
  have cZ := fun H => amayone_ok am0 H
  have cLL := fun H => Lm.mayCode_ok [lb, lb] (by simp) H
  have cL := fun H => Lm.mayCode_ok [lb] (by simp) H
  have cJ := fun H => Lm.mayCode_ok [{ am0 with op := 17 }] (by simp) H
  have cN := fun H => acalls_weak (args := [nilS]) (WeakL.cons (.nil 13) WeakL.nil) (Lm.mayCode_ok [] (by simp) H)
  rw [pm.1] at cO
  rw [pm.2.1] at cM
  rw [pm.2.2.1] at cE
  rw [pm.2.2.2] at cS
  rw [pix] at cX
  rw [pz] at cZ
  rw [pl.1] at cLL
  rw [pl.2] at cL
  rw [pj] at cJ
  rw [may0] at cN
  obtain ⟨clb, hclb⟩ : ∃ clb, clb = lb.cells := ⟨_, rfl⟩
  simp only [Lm.Amd.cells] at g18 g19 ga gb gc gx cO cM cE cS cX cZ
  simp only [Lm.Amd.sl, List.map_cons, List.map_nil, Lm.Amd.cells] at cLL cL cJ
  have kn := known19_ok
  clear pm pl pix pj pz hone hlb hmo hle hls hix hclb
  obtain ⟨L, hL⟩ := pre
  have eM := eqM0
  refine awp_all (hn := fun _ => false) (od := fun _ => none) (by kernel_rfl) ?_
  simp -dsimp [f2, f3, f6, f11, f14, f15, f17, f18, f19, f20, f21, f22, f23, eM]
  repeat' first
    | (refine acallsW_det (cn _ _) ?_; simp -dsimp [f2, f3, f6, f11, f14, f15, f17, f18, f19, f20, f21, f22, f23, g15, g18, g19, ga, gb, gc, gx])
    | (refine acallsW_det (cLL _) ?_; simp -dsimp [f2, f3, f6, f11, f14, f15, f17, f18, f19, f20, f21, f22, f23, g15, g18, g19, ga, gb, gc, gx])
    | (refine acallsW_det (cL _) ?_; simp -dsimp [f2, f3, f6, f11, f14, f15, f17, f18, f19, f20, f21, f22, f23, g15, g18, g19, ga, gb, gc, gx])
    | (refine acallsW_det (cJ _) ?_; simp -dsimp [f2, f3, f6, f11, f14, f15, f17, f18, f19, f20, f21, f22, f23, g15, g18, g19, ga, gb, gc, gx])
    | (refine acallsW_det (cO _) ?_; simp -dsimp [f2, f3, f6, f11, f14, f15, f17, f18, f19, f20, f21, f22, f23, g15, g18, g19, ga, gb, gc, gx])
    | (refine acallsW_det (cM _) ?_; simp -dsimp [f2, f3, f6, f11, f14, f15, f17, f18, f19, f20, f21, f22, f23, g15, g18, g19, ga, gb, gc, gx])
    | (refine acallsW_det (cE _) ?_; simp -dsimp [f2, f3, f6, f11, f14, f15, f17, f18, f19, f20, f21, f22, f23, g15, g18, g19, ga, gb, gc, gx])
    | (refine acallsW_det (cS _) ?_; simp -dsimp [f2, f3, f6, f11, f14, f15, f17, f18, f19, f20, f21, f22, f23, g15, g18, g19, ga, gb, gc, gx])
    | (refine acallsW_det (cX _) ?_; simp -dsimp [f2, f3, f6, f11, f14, f15, f17, f18, f19, f20, f21, f22, f23, g15, g18, g19, ga, gb, gc, gx])
    | (refine acallsW_det (cZ _) ?_; simp -dsimp [f2, f3, f6, f11, f14, f15, f17, f18, f19, f20, f21, f22, f23, g15, g18, g19, ga, gb, gc, gx])
    | (refine acallsW_det (cN _) ?_; simp -dsimp [f2, f3, f6, f11, f14, f15, f17, f18, f19, f20, f21, f22, f23, g15, g18, g19, ga, gb, gc, gx])
    | (refine acallsW_det (kn _) ?_; simp -dsimp [f2, f3, f6, f11, f14, f15, f17, f18, f19, f20, f21, f22, f23, g15, g18, g19, ga, gb, gc, gx])
  rw [hL]
  exact tidy_same rfl ⟨rfl, rfl⟩
end Go.Proofs
