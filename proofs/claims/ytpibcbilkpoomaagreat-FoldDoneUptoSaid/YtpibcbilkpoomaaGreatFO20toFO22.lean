/- Folding: round by round. -/
import Derived.Test.YtpibcbilkpoomaaGreatSS1toFO18
import Derived.Test.YtpibcbilkpoomaaGreatG40toFO19
set_option linter.unusedVariables false
set_option linter.unusedSimpArgs false
set_option maxHeartbeats 4000000
set_option maxRecDepth 100000
namespace Go.Proofs
open Go.Mu
theorem awp_scope_ret {P : Program} {n : Nat} {c : Code} {rs : List ResultVar} {R : AE → List Blk → Prop} {f : Fr} {H : List Blk} {ds : List ADef} (h : AWP P n c (retQ P rs R) f H ds) : AWP P n (.scope c) (retQ P rs R) f H ds := by
  refine awp_scope ?_
  refine Eq.mpr (congrArg (fun Q => AWP P n c Q f H ds) (a₂ := retQ P rs R) ?_) h
  funext x f H ds
  cases x <;> rfl
abbrev subB (l : List (List Tm)) : Blk := ownB 60 1 (l.map fun a => [Tm.sl a])
abbrev subS (k : Nat) (l : List (List Tm)) : AV := ownS k (l.map fun a => [Tm.sl a])
theorem subs_frzB' (l : List (List Tm)) : (l.map fun a => [Tm.sl a]).flatten.all AV.frzB = true := map_frzB _ (fun x => by simp [AV.frzB]) l
def roundsF (rs : List Rg) : Nat → Fc → Fc × List (List Tm)
  | 0, F => (F, [])
  | n + 1, F => if (onePg rs F).eqB (onePg rs F.fold1) = true then (F, []) else ((roundsF rs n F.fold1).1, F.terms1 :: (roundsF rs n F.fold1).2)
structure RdOk (rs : List Rg) (F : Fc) : Prop where
  ask : AskP (onePg rs F) F
  okc : (onePg rs F).OkC
theorem RdOk.fold {rs : List Rg} {F : Fc} (h : RdOk rs F) : RdOk rs F.fold1 := ⟨h.ask.fold, one_okC h.okc⟩
def foldRE (p : Pg) : Pg × List (List Tm) × Int := if askF p = 0 then (match p.funcs with | [F] => (onePg p.regions (roundsF p.regions 8 F).1, (roundsF p.regions 8 F).2, 0) | _ => (Pg.nil, [], 0)) else (Pg.nil, [], askF p)
theorem foldRE_one {p : Pg} {F : Fc} (h : AskP p F) (h0 : askF p = 0) : foldRE p = (onePg p.regions (roundsF p.regions 8 F).1, (roundsF p.regions 8 F).2, 0) := by
  unfold foldRE
  rw [if_pos h0]
  have : p.funcs = [F] := by rw [h.eq]; rfl
  rw [this]
def RndI (M : Pg → List (List Tm) → List Blk → List Blk) (k : Nat) (rs : List Rg) (E : Fc × List (List Tm)) (i : Nat) (f6 : AV) (H' : List Blk) : Prop :=
  ∃ F al L, H' = M (onePg rs F) al L ∧ f6 = subS k al ∧ RdOk rs F ∧ al.length = i ∧ ((roundsF rs (8 - i) F).1, al ++ (roundsF rs (8 - i) F).2) = E
def RndF (M : Pg → List (List Tm) → List Blk → List Blk) (k : Nat) (rs : List Rg) (E : Fc × List (List Tm)) (f6 : AV) (H' : List Blk) : Prop :=
  ∃ F al L, H' = M (onePg rs F) al L ∧ f6 = subS k al ∧ (F, al) = E
theorem frounds_ok (p : Pg) (hp : p.OkP) (H : List Blk) : ACalls Tryz.prog 11 [.agg p.cells] H (fun e H' => e = .ret (.tup [.agg (foldRE p).1.cells, Tm.sls (foldRE p).2.1, I (foldRE p).2.2]) ∧ H' = H) := by
  have ca := fun H => fask_ok p hp H
  refine acalls_under fun hu _ => acalls_tidy (acalls_weakE (acalls_spare 1 (acalls_of_awp Tryz.func11 rfl (by kernel_rfl) ?_)))
  obtain ⟨bz, hbz⟩ : ∃ bz, bz = Blk.box 25 [nilS, nilS] := ⟨_, rfl⟩
  obtain ⟨R, hR⟩ : ∃ R, R = foldRE p := ⟨_, rfl⟩
  rw [← hR]
  have hM0 : H ++ List.replicate 1 Blk.pend = H ++ [subB []] := by simp [subB]
  rw [hM0]
  obtain ⟨M, hM⟩ : ∃ M : Pg → List (List Tm) → List Blk → List Blk, M = fun q al L => H ++ subB al :: .box 25 q.cells :: bz :: L := ⟨_, rfl⟩
  have hMe : ∀ q al L, M q al L = H ++ subB al :: .box 25 q.cells :: bz :: L := fun q al L => by rw [hM]
  have m1 : ∀ q al L, (M q al L)[H.length + 1]? = some (.box 25 [Rg.sl q.regions, Fc.sl q.funcs]) := fun q al L => by rw [hMe, get_app_next]; rfl
  have m2 : ∀ q al L, (M q al L)[H.length + 2]? = some (.box 25 [nilS, nilS]) := fun q al L => by rw [hMe, hbz, get_app_next]; rfl
  have m0 : ∀ q al L, (M q al L)[H.length]? = some (subB al) := fun q al L => by rw [hMe]; simp
  have s0 : ∀ q al al' L, (M q al L).set H.length (subB al') = M q al' L := fun q al al' L => by rw [hMe, hMe]; simp
  have s1 : ∀ q q' al L, (M q al L).set (H.length + 1) (.box 25 [Rg.sl q'.regions, Fc.sl q'.funcs]) = M q' al L := fun q q' al L => by rw [hMe, hMe, set_app_next]; rfl
  have ma : ∀ q al L X, M q al L ++ X = M q al (L ++ X) := fun q al L X => by rw [hMe, hMe]; simp
  have ml : ∀ q al L, (M q al L).length = H.length + 3 + L.length := fun q al L => by rw [hMe]; simp; omega
  refine awp_cut (fun _ => false) (fun _ => none) (fun f H' => H' = M p [] [] ∧ f 1 = .bp (H.length + 1) 0 ∧ f 2 = .bp (H.length + 2) 0) (by kernel_rfl) ?_ ?_
  · rw [hMe, hbz]
    simp -dsimp [Pg.cells]
  rintro g _ ⟨rfl, g1, g2⟩
  clear hM
  have fin : ∀ q al L, (q, al, (0 : Int)) = R → WeakE (Tidy H fun e H' => e = AE.ret (.tup [.agg R.1.cells, Tm.sls R.2.1, I R.2.2]) ∧ H' = H) (.ret (.tup [.agg [Rg.sl q.regions, Fc.sl q.funcs], subS H.length al, I 0])) (H ++ subB al :: L) := fun q al L h => by
    subst h
    by_cases he : al = []
    · subst he
      exact tidy_weak (.tupL (.cons (.refl _) (.cons (.nil 1) (.cons (.refl _) .nil)))) (tidy_same rfl ⟨rfl, rfl⟩)
    · have hne : al.map (fun a => [Tm.sl a]) ≠ [] := fun h => he (List.map_eq_nil_iff.1 h)
      refine tidy_weak (.refl _) ?_
      refine tidy_giveG hu 0 1 60 (al.map fun a => [Tm.sl a]) (by simp only [subB, ownB, if_neg hne]; rfl) (subs_frzB' al) ?_
      have e : (AV.tup [.agg [Rg.sl q.regions, Fc.sl q.funcs], subS H.length al, I 0]).frz (H.length + 0) 1 (al.map fun a => [Tm.sl a]) = .tup [.agg q.cells, Tm.sls al, I 0] := by
        simp only [AV.frz, frzL, Nat.add_zero]
        rw [frz_own _ _ _ hne]
        rfl
      rw [e]
      exact tidy_same rfl ⟨rfl, rfl⟩
  refine awp_scope_ret ?_
  have hR0 := hR
  unfold foldRE at hR0
  simp only [Pg.cells] at ca
  refine awp_cutA (fun f H' => H' = M p [] [] ∧ f 1 = .bp (H.length + 1) 0 ∧ f 2 = .bp (H.length + 2) 0 ∧ askF p = 0) ?_ ?_
  · refine awp_cut (fun _ => false) (fun _ => none) (fun f H' => H' = M p [] [] ∧ f 1 = .bp (H.length + 1) 0 ∧ f 2 = .bp (H.length + 2) 0 ∧ f 5 = I (askF p)) (by kernel_rfl) ?_ ?_
    · simp -dsimp [g1, g2, m1]
      refine acallsW_det (ca _) ?_
      simp -dsimp [g1, g2]
    clear g g1 g2
    rintro g _ ⟨rfl, g1, g2, g5⟩
    by_cases h0 : askF p = 0
    · refine awp_all (fun _ => false) (fun _ => none) (by kernel_rfl) ?_
      simp -dsimp [g1, g2, g5, h0]
    · rw [if_neg h0] at hR0
      have hb : (askF p != 0) = true := by simpa using h0
      refine awp_all (fun _ => false) (fun _ => none) (by kernel_rfl) ?_
      have vl : ∀ X, ((M p [] []).set (H.length + 2) X)[H.length + 2]? = some X := fun X => List.getElem?_set_self (by rw [ml]; simp)
      have vs : ∃ L, (M p [] []).set (H.length + 2) (.box 25 [nilS, nilS]) = H ++ L := ⟨subB [] :: .box 25 p.cells :: .box 25 [nilS, nilS] :: [], by rw [hMe, set_app_next]; rfl⟩
      simp -dsimp [g1, g2, g5, hb, m2, vl]
      obtain ⟨L, hL⟩ := vs
      rw [hL, hR0]
      refine tidy_weak (r' := .tup [.agg [Rg.sl [], Fc.sl []], Tm.sls [], I (askF p)]) (.tupL (.cons (.aggL (.cons (.nil 4) (.cons (.nil 5) .nil))) (.cons (.nil 1) (.cons (.refl _) .nil)))) ?_
      exact tidy_same rfl ⟨rfl, rfl⟩
  clear g g1 g2
  rintro g _ ⟨rfl, g1, g2, h0⟩
  clear hR0
  obtain ⟨F, hF⟩ := ask_has hp h0
  rw [foldRE_one hF h0] at hR
  obtain ⟨rs, hrs⟩ : ∃ rs, rs = p.regions := ⟨_, rfl⟩
  have hRd : RdOk rs F := ⟨by rw [hrs]; have e := hF.eq; rw [← e]; exact hF, by rw [hrs, ← hF.eq]; exact hp.okc⟩
  have hpe : p = onePg rs F := by rw [hrs]; exact hF.eq
  rw [← hrs] at hR
  clear hrs hF ca h0
  subst hpe
  -- a copy
  have cl := fun H => cloneP_ok (onePg rs F) hRd.okc H
  have hfs : ∀ k, fcS k [F] = .hs k 0 1 1 := fun k => by simp [fcS, ownS]
  have hfb : fcB [F] = .row 56 5 [F.cells] := by simp [fcB, ownB]
  simp only [onePg, Pg.cells, hfs, hfb] at cl
  obtain ⟨k, hk⟩ : ∃ k, k = H.length + 3 := ⟨_, rfl⟩
  have hs1 : ∀ X, (H ++ [subB [], .box 25 [Rg.sl rs, Fc.sl [F]], bz, .row 56 5 [F.cells]]).set (H.length + 1) X = H ++ [subB [], X, bz, .row 56 5 [F.cells]] := fun X => by rw [set_app_next]; rfl
  refine awp_cut (fun _ => false) (fun _ => none) (fun f H' => H' = H ++ [subB [], .box 25 [Rg.sl rs, .hs k 0 1 1], bz, .row 56 5 [F.cells]] ∧ f 1 = .bp (H.length + 1) 0 ∧ f 2 = .bp (H.length + 2) 0) (by kernel_rfl) ?_ ?_
  · have e1 : M (onePg rs F) [] [] ++ [.row 56 5 [F.cells]] = H ++ [subB [], .box 25 [Rg.sl rs, Fc.sl [F]], bz, .row 56 5 [F.cells]] := by rw [hMe]; simp [onePg, Pg.cells]
    have e2 : (M (onePg rs F) [] []).length = k := by rw [ml, hk]; rfl
    have e3 : (H ++ [subB [], .box 25 [Rg.sl rs, Fc.sl [F]], bz, .row 56 5 [F.cells]])[H.length + 1]? = some (.box 25 [Rg.sl rs, Fc.sl [F]]) := by rw [get_app_next]; rfl
    simp -dsimp [g1, g2, m1]
    refine acallsW_of (cl _) ?_
    rintro e H' ⟨rfl, rfl⟩
    rw [e1, e2]
    simp -dsimp [g1, g2, e3, hs1]
  clear g g1 g2 hs1 cl
  rintro g _ ⟨rfl, g1, g2⟩
  have hcells : (onePg rs F).cells = [Rg.sl rs, Fc.sl [F]] := rfl
  refine awp_giveBox hu 3 5 56 [Fc.cells F] (by simp [ownB]) (fcs_frzB [F]) 1 25 _ (onePg rs F).cells rfl (by omega) (by
    rw [hcells, ← hk]
    have e : (AV.hs k 0 1 1).frzS k 5 [Fc.cells F] = Fc.sl [F] := by simp [AV.frzS, AV.frz]
    simp only [List.map_cons, List.map_nil, frzS_vs, e]
    exact .refl _) ?_
  intro L' f' hf' hLl hL0 hLo
  obtain ⟨L1, rfl⟩ : ∃ L1, L' = subB [] :: .box 25 (onePg rs F).cells :: bz :: L1 := by
    have e0 := hLo 0 (subB []) (by omega) (by omega) rfl rfl
    have e1 := hLo 2 bz (by omega) (by omega) rfl (by rw [hbz]; rfl)
    match L', hL0, e0, e1 with
    | a :: b :: c :: L1, e1, e0, e2 =>
      simp only [List.getElem?_cons_zero, List.getElem?_cons_succ, Option.some.injEq] at e0 e1 e2
      subst e0 e1 e2
      exact ⟨L1, rfl⟩
  have f1 : f' 1 = .bp (H.length + 1) 0 := by rw [hf', g1]; simp
  have f2 : f' 2 = .bp (H.length + 2) 0 := by rw [hf', g2]; simp
  clear hf' g1 g2 hLl hL0 hLo
  rw [← hMe]
  refine awp_cut (fun _ => false) (fun _ => none) (fun f H' => H' = M (onePg rs F) [] L1 ∧ f 1 = .bp (H.length + 1) 0 ∧ f 2 = .bp (H.length + 2) 0 ∧ f 6 = nilS) (by kernel_rfl) ?_ ?_
  · simp -dsimp [f1, f2]
  clear f1 f2 f'
  rintro g _ ⟨rfl, g1, g2, g6⟩
  refine awp_cut (fun _ => false) (fun _ => none) (fun f H' => H' = M (onePg rs F) [] L1 ∧ f 1 = .bp (H.length + 1) 0 ∧ f 2 = .bp (H.length + 2) 0 ∧ f 6 = nilS) (by kernel_rfl) ?_ ?_
  · simp -dsimp [g1, g2, g6]
  clear g g1 g2 g6
  rintro g _ ⟨rfl, g1, g2, g6⟩
  obtain ⟨E, hE⟩ : ∃ E, E = roundsF rs 8 F := ⟨_, rfl⟩
  rw [← hE] at hR
  refine awp_cutA (fun f H' => RndF M H.length rs E (f 6) H' ∧ f 1 = .bp (H.length + 1) 0 ∧ f 2 = .bp (H.length + 2) 0) ?_ ?_
  rotate_left
  · clear g g1 g2 g6
    rintro g _ ⟨⟨F', al, L, rfl, g6, he⟩, g1, g2⟩
    rw [← he] at hR
    have vl : ∀ X, ((M (onePg rs F') al L).set (H.length + 2) X)[H.length + 2]? = some X := fun X => List.getElem?_set_self (by rw [ml]; omega)
    have vs : (M (onePg rs F') al L).set (H.length + 2) (.box 25 [Rg.sl (onePg rs F').regions, Fc.sl (onePg rs F').funcs]) = H ++ subB al :: (.box 25 (onePg rs F').cells :: .box 25 [Rg.sl (onePg rs F').regions, Fc.sl (onePg rs F').funcs] :: L) := by rw [hMe, set_app_next]; rfl
    refine awp_all (fun _ => false) (fun _ => none) (by kernel_rfl) ?_
    simp -dsimp [g1, g2, g6, m1, m2, vl]
    rw [vs]
    exact fin (onePg rs F') al _ hR.symm
  clear fin
  refine awp_cut (fun _ => false) (fun _ => none) (fun f H' => H' = M (onePg rs F) [] L1 ∧ f 1 = .bp (H.length + 1) 0 ∧ f 2 = .bp (H.length + 2) 0 ∧ f 6 = nilS ∧ f 17 = I 0) (by kernel_rfl) ?_ ?_
  · simp -dsimp [g1, g2, g6]
  clear g g1 g2 g6
  rintro g _ ⟨rfl, g1, g2, g6, g17⟩
  refine awp_block ?_
  refine awp_loopI (fun (i : Nat) f H' => RndI M H.length rs E i (f 6) H' ∧ f 1 = .bp (H.length + 1) 0 ∧ f 2 = .bp (H.length + 2) 0 ∧ f 17 = I i ∧ i ≤ 8) (fun i => 8 - i) 0
    ⟨⟨F, [], L1, rfl, by rw [g6]; exact (ownS_nil _).symm, hRd, rfl, by rw [hE]; rfl⟩, g1, g2, g17, by omega⟩ ?_
  clear g g1 g2 g6 g17 hRd hE
  rintro i g _ ⟨⟨F, al, L, rfl, g6, hRd, hal, hinv⟩, g1, g2, g17, hi⟩
  refine awp_cut (fun _ => false) (fun _ => none) (fun f H' => H' = M (onePg rs F) al L ∧ f 1 = .bp (H.length + 1) 0 ∧ f 2 = .bp (H.length + 2) 0 ∧ f 6 = subS H.length al ∧ f 17 = I i ∧ f 18 = Bo (decide ((i : Int) < 8))) (by kernel_rfl) ?_ ?_
  · simp -dsimp [g1, g2, g6, g17]
  clear g g1 g2 g6 g17
  rintro g _ ⟨rfl, g1, g2, g6, g17, g18⟩
  refine awp_cut (fun _ => false) (fun _ => none) (fun f H' => H' = M (onePg rs F) al L ∧ f 1 = .bp (H.length + 1) 0 ∧ f 2 = .bp (H.length + 2) 0 ∧ f 6 = subS H.length al ∧ f 17 = I i ∧ i < 8) (by kernel_rfl) ?_ ?_
  · simp -dsimp [g18]
    refine condVW_introD (fun hlt => ?_) (fun hlt => ?_)
    · simp -dsimp [g1, g2, g6, g17]
      omega
    · have h8 : 8 - i = 0 := by omega
      rw [h8] at hinv
      simp -dsimp [g1, g2, g6]
      exact ⟨F, al, L, rfl, rfl, by rw [← hinv]; simp [roundsF]⟩
  clear g g1 g2 g6 g17 g18
  rintro g _ ⟨rfl, g1, g2, g6, g17, hlt⟩
  obtain ⟨n, hn⟩ : ∃ n, 8 - i = n + 1 := ⟨7 - i, by omega⟩
  rw [hn, roundsF] at hinv
  refine awp_cutA (fun f H' => RndI M H.length rs E (i + 1) (f 6) H' ∧ f 1 = .bp (H.length + 1) 0 ∧ f 2 = .bp (H.length + 2) 0 ∧ f 17 = I i) ?_ ?_
  rotate_left
  · clear g g1 g2 g6 g17
    rintro g H' ⟨ho, g1, g2, g17⟩
    replace ho := Hid.mk ho
    refine awp_all (fun _ => false) (fun _ => none) (by kernel_rfl) ?_
    simp -dsimp [g1, g2, g17]
    exact ⟨i + 1, by omega, ho.out, wrapS (by omega), by omega⟩
  refine awp_block ?_
  have co := fun H => once_ok rs F hRd.okc hRd.ask.okf H
  have hRd' := hRd.fold
  have cs := fun H => ssame_ok (onePg rs F) (onePg rs F.fold1) (one_okS hRd.okc) (one_okS hRd'.okc) H
  obtain ⟨F', hF'⟩ : ∃ F', F' = F.fold1 := ⟨_, rfl⟩
  obtain ⟨tm, htm⟩ : ∃ tm, tm = F.terms1 := ⟨_, rfl⟩
  rw [← hF', ← htm] at co hinv
  rw [← hF'] at cs hRd'
  simp only [Pg.cells] at co cs
  obtain ⟨b7, hb7⟩ : ∃ b, b = Blk.box 25 [Rg.sl (onePg rs F').regions, Fc.sl (onePg rs F').funcs] := ⟨_, rfl⟩
  obtain ⟨V, hV⟩ : ∃ V, V = M (onePg rs F) al L := ⟨_, rfl⟩
  have v1 : V[H.length + 1]? = some (.box 25 [Rg.sl (onePg rs F).regions, Fc.sl (onePg rs F).funcs]) := by rw [hV, m1]
  rw [← hV]
  refine awp_cut (fun _ => false) (fun _ => none) (fun f H' => H' = V ++ [b7] ∧ f 1 = .bp (H.length + 1) 0 ∧ f 2 = .bp (H.length + 2) 0 ∧ f 6 = subS H.length al ∧ f 17 = I i ∧ f 7 = .bp V.length 0 ∧ f 8 = Tm.sl tm) (by kernel_rfl) ?_ ?_
  · simp -dsimp [g1, g2, g6, g17, v1]
    refine acallsW_det (co _) ?_
    simp -dsimp [g1, g2, g6, g17, hb7]
  clear g g1 g2 g6 g17 v1
  obtain ⟨kq, hkq⟩ : ∃ kq, kq = V.length := ⟨_, rfl⟩
  have q7 : ∀ q al', (M q al' (L ++ [b7]))[kq]? = some (.box 25 [Rg.sl (onePg rs F').regions, Fc.sl (onePg rs F').funcs]) := fun q al' => by
    rw [hkq, hV, ml, hMe, show H.length + 3 + L.length = H.length + (3 + L.length) from by omega, get_app_next, show 3 + L.length = L.length + 1 + 1 + 1 from by omega, ← hb7]; simp
  rw [← hkq, hV, ma]
  clear hkq hV V
  rintro g _ ⟨rfl, g1, g2, g6, g17, g7, g8⟩
  refine awp_cut (fun _ => false) (fun _ => none) (fun f H' => H' = M (onePg rs F) al (L ++ [b7]) ∧ f 1 = .bp (H.length + 1) 0 ∧ f 2 = .bp (H.length + 2) 0 ∧ f 6 = subS H.length al ∧ f 17 = I i ∧ f 7 = .bp kq 0 ∧ f 8 = Tm.sl tm ∧ (onePg rs F).eqB (onePg rs F') = false) (by kernel_rfl) ?_ ?_
  · simp -dsimp [g1, g2, g6, g17, g7, g8, m1, q7]
    refine acallsW_det (cs _) ?_
    cases hq : (onePg rs F).eqB (onePg rs F')
    · simp -dsimp [g1, g2, g6, g17, g7, g8]
    · rw [if_pos hq] at hinv
      simp -dsimp [g1, g2, g6]
      exact ⟨F, al, _, rfl, rfl, by rw [← hinv]; simp⟩
  clear g g1 g2 g6 g17 g7 g8
  rintro g _ ⟨rfl, g1, g2, g6, g17, g7, g8, hq⟩
  rw [hq, if_neg (by decide)] at hinv
  refine awp_all (fun d => d == 31) (fun i => if i = 10 then some [(0, []), (1, []), (2, []), (3, []), (4, [0]), (5, []), (6, [])] else none) (by kernel_rfl) ?_
  simp -dsimp [g1, g2, g6, g17, g7, g8, q7]
  refine appendVW_own (k := H.length) (es := al.map fun a => [Tm.sl a]) (by rw [m0]) (by simp; omega) (by simp; omega) ?_
  have hsb : al.map (fun a => [Tm.sl a]) ++ [[Tm.sl tm]] = (al ++ [tm]).map fun a => [Tm.sl a] := by simp
  rw [hsb, s0]
  simp -dsimp [g1, g2, g6, g17, g7, g8, q7, m1, s1]
  exact ⟨F', al ++ [tm], _, rfl, by rw [subS, ← hsb], hRd', by simp [hal], by rw [← hinv, show 8 - (i + 1) = n from by omega]; simp⟩
end Go.Proofs
namespace Go.Mu
end Go.Mu
namespace Go.Proofs
open Go.Mu
end Go.Proofs
namespace Go.Proofs
open Go.Mu
section
variable {H L : List Blk} {o t : Blk} {j k1 : Nat} {b : Blk}
end
end Go.Proofs
