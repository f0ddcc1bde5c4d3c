/- Labels gone over: the law AmdMay walked. -/
import Derived.Test.YtganjkhdlehhdaaGreatAMKtoAVG
import Derived.Test.YtganjkhdlehhdaaGreatCV1toAVK
set_option linter.unusedVariables false
set_option linter.unusedSimpArgs false
set_option maxHeartbeats 4000000
set_option maxRecDepth 100000
namespace Go.Proofs
open Go.Mu
theorem much_ok (l : List Amd) (hl : l.length ≤ 2^40) (H : List Blk) : ACalls Tryz.prog 6 [Lm.Amd.sl l] H (fun e H' => e = .ret (Bo (decide (200 < l.length))) ∧ H' = H) := by
  refine acalls_of_vc (hn := fun _ => false) (od := fun _ => none) Tryz.func6 rfl (by kernel_rfl) ?_
  have e : decide ((200 : Int) < (l.length : Int)) = decide (200 < l.length) := decide_eq_decide.2 (by omega)
  simp -dsimp
  omega
end Go.Proofs
namespace Go.Proofs
open Go.Mu
theorem stZ_eq : binE Tryz.prog .eql 28 (.agg stZ) (.agg stZ) = some (Bo true) := by kernel_rfl
theorem und_cells (s : Mst) (n : Nat) : underL n (stC s) = true := by
  refine underL_frzB _ _ fun c hc => ?_
  unfold stC at hc
  simp only [List.mem_append, List.mem_map, List.mem_cons, List.not_mem_nil, or_false] at hc
  rcases hc with ⟨x, _, rfl⟩ | rfl | rfl | rfl | rfl | rfl | rfl | rfl <;> rfl
theorem vg_all {R : List Int} (h : ∀ x ∈ R, Wd x) : ∀ r, Wd (vg R r) := fun r => by
  unfold vg
  rw [List.getD_eq_getElem?_getD]
  cases hg : R[r.toNat]? with
  | none => exact wd_0
  | some x => exact h x (List.mem_of_getElem? hg)
theorem steps_law (l : List Amd) (hl : l.length ≤ 2^32) (hw : ∀ i ∈ l, Wd i.imm ∧ -9223372036854775808 ≤ i.disp ∧ i.disp ≤ 9223372036854775807) (s0 : Mst) (hs : stOk s0) (r : List Rg) (w : List (List Int)) (hrr : r.length ≤ 2^40) (H : List Blk) :
    ACalls Tryz.prog 3 [Lm.Amd.sl l, .agg (stC s0), Rg.sl r, Us.sl w] H (fun e H' => e = .ret (Bo true) ∧ H' = H) := by
  refine acalls_under fun hu0 _ => acalls_tidy (acalls_of_awp Tryz.func3 rfl (by kernel_rfl) ?_)
  have hmu := fun H => much_ok l (by omega) H
  have hun := fun H => unfit_ok r w hrr H
  have ck := known19_ok
  have cn := law19_num
  have cm := fun H => rmay19_ok l (by omega) H
  rw [rMayA_eq l hw] at cm
  have hat := hs.at_
  have hst := hs.steps
  obtain ⟨sc, hsc⟩ : ∃ sc, sc = stC s0 := ⟨_, rfl⟩
  have hsl : sc.length = 23 := by rw [hsc]; exact stC_len hs.R
  have d21 : sc.drop 21 = [I s0.at_, I s0.steps] := by
    rw [hsc]; unfold stC
    rw [show (21 : Nat) = (Regs s0.R).length + 5 by simp [hs.R], ← List.drop_drop, List.drop_left]
    rfl
  have d22 : sc.drop 22 = [I s0.steps] := by rw [show (22 : Nat) = 21 + 1 from rfl, ← List.drop_drop, d21]; rfl
  have tsc : sc.take 23 = sc := List.take_of_length_le (by omega)
  have osc : sc.all AV.one = true := by rw [hsc]; exact stC_one _
  rw [← hsc]
  have fin : ∀ L, Tidy H (fun e H' => e = .ret (Bo true) ∧ H' = H) (.ret (Bo true)) (H ++ L) := fun L => tidy_same rfl ⟨rfl, rfl⟩
  refine awp_cut (fun _ => false) (fun _ => none) (fun f M => M = H ++ [.box 28 sc] ∧ f 0 = Lm.Amd.sl l ∧ f 2 = Rg.sl r ∧ f 3 = Us.sl w ∧ f 5 = .bp H.length 0) (by kernel_rfl) ?_ ?_
  · simp -dsimp [hsl]
  rintro f M ⟨rfl, f0, f2, f3, f5⟩
  refine awp_cut (fun _ => false) (fun _ => none) (fun f M => M = H ++ [.box 28 sc] ∧ (l.length ≤ 200 ∧ mayL r = true ∧ fitsL r w = true) ∧ f 0 = Lm.Amd.sl l ∧ f 2 = Rg.sl r ∧ f 3 = Us.sl w ∧ f 5 = .bp H.length 0) (by kernel_rfl) ?_ ?_
  · obtain ⟨d, hd⟩ : ∃ d, d = decide (200 < l.length) := ⟨_, rfl⟩
    rw [← hd] at hmu
    simp -dsimp [f0, f2, f3, f5]
    refine acallsW_det (hmu _) ?_
    cases d
    · simp -dsimp [f0, f2, f3, f5]
      refine acallsW_of (hun _) ?_
      rintro e _ ⟨rfl | ⟨rfl, h1, h2⟩, rfl⟩
      · simp -dsimp
        refine acallsW_det (ck _) ?_
        simp -dsimp
        exact fin _
      · have := of_decide_eq_false hd.symm
        simp -dsimp [f0, f2, f3, f5]
        exact ⟨by omega, h1, h2⟩
    · simp -dsimp
      refine acallsW_det (ck _) ?_
      simp -dsimp
      exact fin _
  clear f0 f2 f3 f5 f hmu hun
  rintro f M ⟨rfl, ⟨hl2, hm, hf⟩, f0, f2, f3, f5⟩
  have hlay := mayL_ok hm
  have co := memory_ok r w hm hf (H ++ [.box 28 sc])
  have hbk : BytesOk (fillB r w) := by rw [← fillR_eq]; exact bytes_fillTo bytes_zero _ _ _
  have hbl := fillB_len r w
  obtain ⟨b, hb⟩ : ∃ b, b = fillB r w := ⟨_, rfl⟩
  rw [← hb] at co hbk hbl
  clear hb
  have n1 : (H ++ [Blk.box 28 sc]).length = H.length + 1 := by simp
  rw [n1] at co
  -- what stays, and what is given away
  obtain ⟨N, hN⟩ : ∃ N : List Int → List Blk, ∀ x, N x = H ++ [.box 28 sc, byB x, meB r (H.length + 1)] := ⟨_, fun _ => rfl⟩
  have nN : ∀ x, (N x).length = H.length + 3 := fun x => by rw [hN]; simp
  obtain ⟨G, hG⟩ : ∃ G : List Int → List Int → List Blk → List Blk, ∀ x y X, G x y X = N x ++ ([rowY y, rfB (Rg.sl r) (H.length + 3)] ++ X) := ⟨_, fun _ _ _ => rfl⟩
  have hG0 : GN (H ++ [.box 28 sc]) r b b = G b b [] := by rw [hG, hN]; simp [GN]
  rw [hG0] at co
  have gN : ∀ x X (j : Nat) y, (N x)[j]? = some y → (N x ++ X)[j]? = some y := fun x X j y h => get_app_old h _
  have N0 : ∀ x, (N x)[H.length]? = some (.box 28 sc) := fun x => by rw [hN]; simp
  have memN : ∀ x X, x.length = 65536 → MemAt (N x ++ X) (H.length + 2) (H.length + 1) r x := fun x X hx => ⟨gN x X _ _ (by rw [hN]; simp), gN x X _ _ (by rw [hN]; simp), hx⟩
  have memG : ∀ x y X, x.length = 65536 → MemAt (G x y X) (H.length + 2) (H.length + 1) r x := fun x y X hx => by rw [hG]; exact memN x _ hx
  have refG : ∀ x y X, y.length = 65536 → RefAt (G x y X) (H.length + 4) (H.length + 3) (Rg.sl r) y := fun x y X hy => ⟨by rw [hG, List.getElem?_append_right (by rw [nN]; omega), nN]; simp, by rw [hG, List.getElem?_append_right (by rw [nN]; omega), nN]; simp, hy⟩
  have G0 : ∀ x y X, (G x y X)[H.length]? = some (.box 28 sc) := fun x y X => by rw [hG]; exact gN _ _ _ _ (N0 x)
  have apG : ∀ x y X Y, G x y X ++ Y = G x y (X ++ Y) := fun x y X Y => by rw [hG, hG]; simp
  have lnG : ∀ x y X, (G x y X).length = H.length + (5 + X.length) := fun x y X => by rw [hG]; simp [nN]; omega
  have sx : ∀ x y X z, (G x y X).set (H.length + 1) (byB z) = G z y X := fun x y X z => by rw [hG, hG, List.set_append_left _ _ (by rw [nN]; omega), hN, hN]; simp
  have sy : ∀ x y X z, (G x y X).set (H.length + 3) (rowY z) = G x z X := fun x y X z => by rw [hG, hG, List.set_append_right _ _ (by rw [nN]; omega), nN]; simp
  have G5 : ∀ x y b5 X, (G x y (b5 :: X))[H.length + 5]? = some b5 := fun x y b5 X => by rw [hG, List.getElem?_append_right (by rw [nN]; omega), nN]; simp
  have G6 : ∀ x y b5 b6 X, (G x y (b5 :: b6 :: X))[H.length + 6]? = some b6 := fun x y b5 b6 X => by rw [hG, List.getElem?_append_right (by rw [nN]; omega), nN]; simp
  have G5' : ∀ x y b5 X h, (G x y (b5 :: X))[H.length + 5]'h = b5 := fun x y b5 X h => by
    have := G5 x y b5 X
    rw [List.getElem?_eq_getElem h] at this
    exact Option.some.inj this
  have G6' : ∀ x y b5 b6 X h, (G x y (b5 :: b6 :: X))[H.length + 6]'h = b6 := fun x y b5 b6 X h => by
    have := G6 x y b5 b6 X
    rw [List.getElem?_eq_getElem h] at this
    exact Option.some.inj this
  have G0' : ∀ x y X h, (G x y X)[H.length]'h = .box 28 sc := fun x y X h => by
    have := G0 x y X
    rw [List.getElem?_eq_getElem h] at this
    exact Option.some.inj this
  have uN : ∀ x, underH (N x).length (N x) = true := fun x => by
    rw [nN, hN]
    refine underH_appF (n := H.length) (by omega) hu0 ?_
    intro c hc
    simp only [List.mem_cons, List.not_mem_nil, or_false] at hc
    rcases hc with rfl | rfl | rfl
    · show underL _ sc = true
      rw [hsc]; exact und_cells _ _
    · exact by_under _ _
    · simp [meB, Blk.under, AV.under, underL]
  have finG : ∀ x X, Tidy H (fun e H' => e = .ret (Bo true) ∧ H' = H) (.ret (Bo true)) (N x ++ X) := fun x X => by rw [hN, List.append_assoc]; exact fin _
  refine awp_cut (fun _ => false) (fun _ => none) (fun f M => M = G b b [] ∧ f 0 = Lm.Amd.sl l ∧ f 5 = .bp H.length 0 ∧ f 9 = .bp (H.length + 2) 0 ∧ f 10 = .bp (H.length + 4) 0 ∧ f 11 = Bo true) (by kernel_rfl) ?_ ?_
  · simp -dsimp [f0, f2, f3, f5]
    refine acallsW_of co ?_
    rintro e _ ⟨rfl, rfl⟩
    simp -dsimp [f0, f2, f3, f5]
  clear f0 f2 f3 f5 f co hG0
  rintro f M ⟨rfl, f0, f5, f9, f10, f11⟩
  refine awp_cut (fun _ => false) (fun _ => none) (fun f M => M = G b b [] ∧ f 0 = Lm.Amd.sl l ∧ f 5 = .bp H.length 0 ∧ f 9 = .bp (H.length + 2) 0 ∧ f 10 = .bp (H.length + 4) 0) (by kernel_rfl) ?_ ?_
  · simp -dsimp [f0, f5, f9, f10, f11]
  clear f0 f5 f9 f10 f11 f
  rintro f M ⟨rfl, f0, f5, f9, f10⟩
  have give : ∀ (x y : List Int) (X : List Blk) {c : Code} {f : Fr} {n : Nat} {Q : AQ}, y.length = 65536 → BytesOk y → (∀ b ∈ X, ∀ n, b.under n = true) →
      (∀ L' f', (∀ s, f' s = (f s).frzS (H.length + 3) 1 (y.map fun x => [Y x])) → L'.length = 2 + X.length → RefV (N x ++ L') (H.length + 4) r y → (∀ i b, X[i]? = some b → (N x ++ L')[H.length + (5 + i)]? = some b) → AWP Tryz.prog n c Q f' (N x ++ L') []) → AWP Tryz.prog n c Q f (G x y X) [] := fun x y X c f n Q hy hyb hX k => by
    rw [hG]
    obtain ⟨E, hE⟩ : ∃ E, E = y.map fun x => [Y x] := ⟨_, rfl⟩
    have hEl : E.length = 65536 := by rw [hE, List.length_map, hy]
    have hEn : E ≠ [] := fun h => by rw [h] at hEl; cases hEl
    have hEz : E.flatten.all AV.frzB = true := by
      rw [List.all_eq_true]
      intro c hc
      obtain ⟨e, he, hce⟩ := List.mem_flatten.1 hc
      rw [hE] at he
      obtain ⟨x, _, rfl⟩ := List.mem_map.1 he
      simp at hce
      subst hce
      rfl
    rw [rowY, ← hE]
    refine awp_giveBox (uN x) 0 1 5 E (by rw [ownB, if_neg hEn]; rfl) hEz 1 98 [Rg.sl r, .hs (H.length + 3) 0 65536 65536] [Rg.sl r, .vs 1 E] rfl (by decide) ?_ ?_
    · have e1 : ([Rg.sl r, .hs (H.length + 3) 0 65536 65536] : List AV).map (AV.frzS ((N x).length + 0) 1 E) = [Rg.sl r, .vs 1 E] := by
        rw [nN]
        simp only [List.map_cons, List.map_nil, Nat.add_zero]
        rw [frzS_vs]
        simp [AV.frzS, hEn, AV.frz, hEl]
        exact List.take_of_length_le (by omega)
      rw [e1]
      exact .cons (.refl _) (.cons (.refl _) .nil)
    intro L' f' h1 h2 h3 h4
    rw [nN, hE] at h1
    refine k L' f' h1 (by rw [h2]; simp; omega) ⟨by rw [List.getElem?_append_right (by rw [nN]; omega), nN, ← hE]; simpa using h3, hy, hyb⟩ fun i b hb => ?_
    rw [List.getElem?_append_right (by rw [nN]; omega), nN, show H.length + (5 + i) - (H.length + 3) = i + 2 by omega]
    exact h4 (i + 2) b (by omega) (by omega) (by simpa using hb) (hX b (List.mem_of_getElem? hb) _)
  have stzl : stZ.length = 23 := rfl
  have stzt : stZ.take 23 = stZ := rfl
  have stzo : stZ.all AV.one = true := by decide
  have S5 : ∀ x y Z X Z', (G x y (Z :: X)).set (H.length + 5) Z' = G x y (Z' :: X) := fun x y Z X Z' => by rw [hG, hG, List.set_append_right _ _ (by rw [nN]; omega), nN]; simp
  have S6 : ∀ x y Y Z X Z', (G x y (Y :: Z :: X)).set (H.length + 6) Z' = G x y (Y :: Z' :: X) := fun x y Y Z X Z' => by rw [hG, hG, List.set_append_right _ _ (by rw [nN]; omega), nN]; simp
  have dz : List.drop 23 [U 0, U 0, U 0, U 0, U 0, U 0, U 0, U 0, U 0, U 0, U 0, U 0, U 0, U 0, U 0, U 0, Bo false, Bo false, Bo false, Bo false, Bo false, I 0, I 0] = [] := rfl
  have spz : ∀ cs : List AV, cs.length = 23 → spl [U 0, U 0, U 0, U 0, U 0, U 0, U 0, U 0, U 0, U 0, U 0, U 0, U 0, U 0, U 0, U 0, Bo false, Bo false, Bo false, Bo false, Bo false, I 0, I 0] 0 cs = cs := fun cs h => spl_all _ _ (by rw [h]; rfl)
  have fz : ∀ (f : Fr) (f' : Fr) (E : List (List AV)), (∀ s, f' s = (f s).frzS (H.length + 3) 1 E) → ∀ s v, f s = v → v.under (H.length + 3) = true → f' s = v := fun f f' E h s v hv hu => by rw [h, hv]; exact frzS_id (Nat.le_refl _) _ hu
  by_cases hgood : Lm.mayA l = true ∧ 0 ≤ s0.at_ ∧ s0.at_ ≤ l.length
  rotate_left
  · have hbad : Lm.mayA l = false ∨ s0.at_ < 0 ∨ l.length < s0.at_ := by
      cases h : Lm.mayA l
      · exact .inl rfl
      · rw [h] at hgood
        simp only [true_and] at hgood
        omega
    have cs := astep_bad l (by omega) s0 hs.R hbad hlay.1 (memG b b [] hbl)
    rw [← hsc] at cs
    obtain ⟨Zc, hZc⟩ : ∃ Z, Z = stZ := ⟨_, rfl⟩
    have stq := stZ_eq
    rw [← hZc] at cs stzl stzt stzo stq
    have spzz := spz Zc stzl
    refine awp_cut (fun _ => false) (fun _ => none) (fun f M => M = G b b [.box 28 Zc] ∧ f 0 = Lm.Amd.sl l ∧ f 5 = .bp H.length 0 ∧ f 9 = .bp (H.length + 2) 0 ∧ f 10 = .bp (H.length + 4) 0 ∧ f 12 = .bp (H.length + 5) 0 ∧ f 13 = nilS ∧ f 14 = I 2) (by kernel_rfl) ?_ ?_
    · simp -dsimp [f0, f5, f9, f10, G0, tsc, osc, hsl]
      refine acallsW_det cs ?_
      simp -dsimp [f0, f5, f9, f10, apG, lnG, stzl, stzo, stzt, spzz, S5, G5, G5']
    clear f0 f5 f9 f10 f cs
    rintro f M ⟨rfl, f0, f5, f9, f10, f12, f13, f14⟩
    refine give b b _ hbl hbk ?_ ?_
    · intro x hx n
      rw [List.mem_singleton] at hx
      subst hx
      rw [hZc]
      rfl
    intro L' f' hf' hL' m2 hX
    have m1 := memN b L' hbl
    have e0 := fz f f' _ hf' 0 _ f0 (by rfl)
    have e5 := fz f f' _ hf' 5 _ f5 (by simp [AV.under])
    have e9 := fz f f' _ hf' 9 _ f9 (by simp [AV.under])
    have e10 : f' 10 = .bp (H.length + 4) 0 := by rw [hf', f10]; simp
    have e12 : f' 12 = .bp (H.length + 5) 0 := by rw [hf', f12]; simp
    have e13 := fz f f' _ hf' 13 _ f13 (by rfl)
    have e14 := fz f f' _ hf' 14 _ f14 (by rfl)
    have x0 := hX 0 _ rfl
    have y0 := gN b L' _ _ (N0 b)
    have sm := sameMem_ok m1 m2 hlay.1 hlay.2
    have tl := finG b L'
    obtain ⟨W, hW⟩ : ∃ W, W = N b ++ L' := ⟨_, rfl⟩
    rw [← hW] at x0 y0 sm tl ⊢
    replace tl := Hid.mk tl
    clear hf' hX m1 m2 hW f0 f5 f9 f10 f12 f13 f14
    have hz : Zc = [U 0, U 0, U 0, U 0, U 0, U 0, U 0, U 0, U 0, U 0, U 0, U 0, U 0, U 0, U 0, U 0, Bo false, Bo false, Bo false, Bo false, Bo false, I 0, I 0] := hZc
    rw [hz] at x0 stq
    refine awp_cut (fun _ => false) (fun _ => none) (fun f M' => False) (by kernel_rfl) ?_ ?_
    rotate_left
    · rintro f M ⟨⟩
    obtain ⟨c, hc⟩ : ∃ c, c = Lm.mayA l := ⟨_, rfl⟩
    rw [← hc] at hbad cm
    simp -dsimp [e0, e5, e9, e10, e12, e13, e14]
    refine acallsW_det (cm _) ?_
    obtain ⟨d1, hd1⟩ : ∃ d, d = decide (s0.at_ < 0) := ⟨_, rfl⟩
    obtain ⟨d2, hd2⟩ : ∃ d, d = decide ((l.length : Int) < s0.at_) := ⟨_, rfl⟩
    have hb3 : c = false ∨ d1 = true ∨ d2 = true := by rw [hd1, hd2]; simpa using hbad
    have rest : True := trivial
    cases c <;> cases d1 <;> cases d2
    all_goals first | (simp at hb3; done) | skip
    all_goals simp -dsimp [e0, e5, e9, e10, e12, e13, e14, x0, y0, d21, hsl, ← hd1, ← hd2, stq]
    all_goals refine acallsW_det (cn _ _) ?_
    all_goals simp -dsimp [e0, e5, e9, e10, e12, e13, e14, x0, y0, d21, hsl, ← hd1, ← hd2, stq]
    all_goals refine acallsW_det sm ?_
    all_goals simp -dsimp
    all_goals refine acallsW_det (ck _) ?_
    all_goals simp -dsimp
    all_goals exact tl.out
  obtain ⟨hok, ha0, ha1⟩ := hgood
  have hri : ∀ i ∈ l, Wd i.imm := fun i hi => (hw i hi).1
  obtain ⟨s, hsd⟩ : ∃ s : Mst, s = { s0 with b := b, seen := [] } := ⟨_, rfl⟩
  have hsn : s.seen = [] := by rw [hsd]
  have hsb : s.b = b := by rw [hsd]
  have hsat : s.at_ = s0.at_ := by rw [hsd]
  have hsst : s.steps = s0.steps := by rw [hsd]
  have hms : MsR s := ⟨by rw [hsd]; exact hs.R, by rw [hsd]; exact vg_all hs.W, by rw [hsn]; simp, by rw [hsb]; exact hbl⟩
  have hsc2 : sc = stC s := by rw [hsc, hsd]; rfl
  clear hsd
  have ca := astep_run l hok hri s hms hsn (by omega) (by omega) r hlay.1 hlay.2 (k := H.length + 2) (kb := H.length + 1) (H := G b b []) (by rw [hsb]; exact memG b b [] hbl)
  have facts := step_facts r l hri s hms hsn (by omega) (by omega) (by omega) (by rw [hsb]; exact hbk)
  obtain ⟨S, hS⟩ : ∃ S, S = stepM r l s := ⟨_, rfl⟩
  rw [← hS] at ca facts
  obtain ⟨fR, fS, fB, fL⟩ := facts
  rw [← hsc2, sx] at ca
  obtain ⟨So, hSo⟩ : ∃ c, c = stC S.1 := ⟨_, rfl⟩
  have Sl : So.length = 23 := by rw [hSo]; exact stC_len fR
  have St : So.take 23 = So := List.take_of_length_le (by omega)
  have Soo : So.all AV.one = true := by rw [hSo]; exact stC_one _
  have Sz := spz So Sl
  have Seq : binE Tryz.prog .eql 28 (.agg So) (.agg So) = some (Bo true) := by rw [hSo]; exact st_eq _ fR
  have Su : ∀ n, underL n So = true := fun n => by rw [hSo]; exact und_cells _ n
  have cse := fun H => sseen_ok S.1.seen (by omega) H
  obtain ⟨q, hq⟩ : ∃ q, q = Se.sl S.1.seen := ⟨_, rfl⟩
  have qu : ∀ n, q.under n = true := fun n => by rw [hq]; simp [Se.sl, AV.under]
  rw [← hSo, ← hq] at ca
  rw [← hq] at cse
  refine awp_cut (fun _ => false) (fun _ => none) (fun f M => M = G S.1.b b [.box 28 So] ∧ f 0 = Lm.Amd.sl l ∧ f 5 = .bp H.length 0 ∧ f 9 = .bp (H.length + 2) 0 ∧ f 10 = .bp (H.length + 4) 0 ∧ f 12 = .bp (H.length + 5) 0 ∧ f 13 = q ∧ f 14 = I S.2) (by kernel_rfl) ?_ ?_
  · simp -dsimp [f0, f5, f9, f10, G0, tsc, osc, hsl]
    refine acallsW_of ca ?_
    rintro e _ ⟨rfl, rfl⟩
    simp -dsimp [f0, f5, f9, f10, apG, lnG, Sl, Soo, St, Sz, S5, G5, G5']
  clear f0 f5 f9 f10 f ca
  rintro f M ⟨rfl, f0, f5, f9, f10, f12, f13, f14⟩
  have d1 : decide (s0.at_ < 0) = false := decide_eq_false (by omega)
  have d2 : decide ((l.length : Int) < s0.at_) = false := decide_eq_false (by omega)
  refine awp_cut (fun _ => false) (fun _ => none) (fun f M => M = G S.1.b b [.box 28 So] ∧ f 0 = Lm.Amd.sl l ∧ f 5 = .bp H.length 0 ∧ f 9 = .bp (H.length + 2) 0 ∧ f 10 = .bp (H.length + 4) 0 ∧ f 12 = .bp (H.length + 5) 0 ∧ f 13 = q ∧ f 14 = I S.2) (by kernel_rfl) ?_ ?_
  · rw [hok] at cm
    simp -dsimp [f0, f5, f9, f10, f12, f13, f14]
    refine acallsW_det (cm _) ?_
    simp -dsimp [f0, f5, f9, f10, f12, f13, f14, G0, d21, hsl, d1, d2]
  clear f0 f5 f9 f10 f12 f13 f14 f
  rintro f M ⟨rfl, f0, f5, f9, f10, f12, f13, f14⟩
  have finH : ∀ x y X, Tidy H (fun e H' => e = .ret (Bo true) ∧ H' = H) (.ret (Bo true)) (G x y X) := fun x y X => by rw [hG]; exact finG _ _
  replace finH := Hid.mk finH
  refine awp_cut (fun _ => false) (fun _ => none) (fun f M => M = G S.1.b b [.box 28 So] ∧ (-1099511627776 ≤ s0.steps ∧ s0.steps ≤ 1099511627776) ∧ f 0 = Lm.Amd.sl l ∧ f 5 = .bp H.length 0 ∧ f 9 = .bp (H.length + 2) 0 ∧ f 10 = .bp (H.length + 4) 0 ∧ f 12 = .bp (H.length + 5) 0 ∧ f 13 = q ∧ f 14 = I S.2) (by kernel_rfl) ?_ ?_
  · obtain ⟨a1, ha1⟩ : ∃ d, d = decide (1099511627776 < s0.steps) := ⟨_, rfl⟩
    obtain ⟨a2, ha2⟩ : ∃ d, d = decide (s0.steps < -1099511627776) := ⟨_, rfl⟩
    simp -dsimp [f0, f5, f9, f10, f12, f13, f14, G0, d22, hsl, ← ha1]
    cases a1
    · simp -dsimp [f0, f5, f9, f10, f12, f13, f14, G0, d22, hsl, ← ha2]
      cases a2
      · simp -dsimp [f0, f5, f9, f10, f12, f13, f14]
        have := of_decide_eq_false ha1.symm
        have := of_decide_eq_false ha2.symm
        omega
      · simp -dsimp
        refine acallsW_det (ck _) ?_
        simp -dsimp
        exact finH.out _ _ _
    · simp -dsimp
      refine acallsW_det (ck _) ?_
      simp -dsimp
      exact finH.out _ _ _
  clear f0 f5 f9 f10 f12 f13 f14 f
  rintro f M ⟨rfl, hst2, f0, f5, f9, f10, f12, f13, f14⟩
  have cr := ref_step l hok hri s hms hsn (by omega) (by omega) (by omega) r hlay.1 hlay.2 (by rw [hsb]; exact hbk) (k := H.length + 4) (kb := H.length + 3) (M := G S.1.b b [.box 28 So]) (by rw [hsb]; exact refG _ b _ hbl)
  rw [← hS, ← hsc2, ← hSo, ← hq, sy] at cr
  refine awp_cut (fun _ => false) (fun _ => none) (fun f M => M = G S.1.b S.1.b [.box 28 So, .box 28 So] ∧ f 9 = .bp (H.length + 2) 0 ∧ f 10 = .bp (H.length + 4) 0 ∧ f 12 = .bp (H.length + 5) 0 ∧ f 13 = q ∧ f 14 = I S.2 ∧ f 15 = .bp (H.length + 6) 0 ∧ f 16 = q ∧ f 17 = I S.2) (by kernel_rfl) ?_ ?_
  · simp -dsimp [f0, f5, f9, f10, f12, f13, f14, G0, tsc, osc, hsl]
    refine acallsW_of cr ?_
    rintro e _ ⟨rfl, rfl⟩
    simp -dsimp [f9, f10, f12, f13, f14, apG, lnG, Sl, Soo, St, Sz, S6, G6, G6']
  clear f0 f5 f9 f10 f12 f13 f14 f cr
  rintro f M ⟨rfl, f9, f10, f12, f13, f14, f15, f16, f17⟩
  refine give S.1.b S.1.b _ fL fB ?_ ?_
  · intro x hx n
    simp only [List.mem_cons, List.not_mem_nil, or_false, or_self] at hx
    subst hx
    exact Su n
  intro L' f' hf' hL' m2 hX
  have m1 := memN S.1.b L' fL
  have e9 := fz f f' _ hf' 9 _ f9 (by simp [AV.under])
  have e10 : f' 10 = .bp (H.length + 4) 0 := by rw [hf', f10]; simp
  have e12 : f' 12 = .bp (H.length + 5) 0 := by rw [hf', f12]; simp
  have e13 := fz f f' _ hf' 13 _ f13 (qu _)
  have e14 := fz f f' _ hf' 14 _ f14 (by rfl)
  have e15 : f' 15 = .bp (H.length + 6) 0 := by rw [hf', f15]; simp
  have e16 := fz f f' _ hf' 16 _ f16 (qu _)
  have e17 := fz f f' _ hf' 17 _ f17 (by rfl)
  have x0 := hX 0 _ rfl
  have x1 := hX 1 _ rfl
  have sm := sameMem_ok m1 m2 hlay.1 hlay.2
  have tl := finG S.1.b L'
  obtain ⟨W, hW⟩ : ∃ W, W = N S.1.b ++ L' := ⟨_, rfl⟩
  rw [← hW] at x0 x1 sm tl ⊢
  replace tl := Hid.mk tl
  clear hf' hX m1 m2 hW f9 f10 f12 f13 f14 f15 f16 f17
  refine awp_all (hn := fun _ => false) (od := fun _ => none) (by kernel_rfl) ?_
  simp -dsimp [e9, e10, e12, e13, e14, e15, e16, e17, x0, x1, Sl, St, Seq, Soo]
  refine acallsW_det (cse _) ?_
  simp -dsimp [e9, e10, e12, e13, e14, e15, e16, e17]
  refine acallsW_det (cn _ _) ?_
  simp -dsimp [e9, e10, e12, e13, e14, e15, e16, e17]
  refine acallsW_det sm ?_
  simp -dsimp
  refine acallsW_det (ck _) ?_
  simp -dsimp
  exact tl.out
end Go.Proofs
