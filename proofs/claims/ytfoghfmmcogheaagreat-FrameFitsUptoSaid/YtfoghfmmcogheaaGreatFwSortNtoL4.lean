/- The library's slices.SortFunc at no element. -/
import Derived.Test.YtfoghfmmcogheaaGreatFwSort
import Derived.Shelf.SlSortCmp.NoneTotal
import Derived.Test.YtfoghfmmcogheaaGreatFwRgtoFR4
import Derived.Test.YtfoghfmmcogheaaGreatL1
set_option linter.unusedVariables false
set_option linter.unusedSimpArgs false
set_option maxHeartbeats 4000000
set_option maxRecDepth 100000
namespace Go.Mu
open Go.RowKit (Below)
open Go.Sort Go.Proofs Go.Shelf
theorem acalls_sortFunc_none {P : Program} {ρ : Ren} {H : List Blk} {fv : AV} (L : SlLaysF0.n6 P ρ) : ACalls P (ρ.f 6) [.v (.slice none 0 0), fv] H (fun e H' => e = .ret (.tup []) ∧ H' = H) := by
  intro B w0 cx vals hR hH hA
  obtain ⟨v1, vs1, rfl, r1, hA1⟩ := hA.cons_inv
  obtain ⟨v2, vs2, rfl, r2, hA2⟩ := hA1.cons_inv
  obtain rfl := hA2.nil_inv
  obtain rfl := r1.v_inv
  refine (AnyF.slices_SortFunc_none L none 0 v2 cx.w).mono ?_
  rintro e w' ⟨rfl, rfl⟩
  exact ⟨cx, .tup [], rfl, hR, Le.refl _, tup_nil_undef _ _, rfl, hH⟩
end Go.Mu
namespace Go.Proofs
open Go.Mu
theorem psorted_ok (l : List Pl) (hl : l.length ≤ 2^36) (kb : Nat) (H : List Blk) (hb : H[kb]? = some (.box 28 [Pl.sl l])) :
    ACalls Tryz.prog 22 [.fn (.func 38) [] [.bp kb 0], .fn (.func 24) [] []] H
      (fun e H' => ∃ ys : List Pl, ys.Perm l ∧ ys.Pairwise (fun x y => x.at_ ≤ y.at_) ∧ e = .ret (Pl.sl ys) ∧ H' = H) := by
  refine acalls_under fun hu _ => acalls_tidy (acalls_weakE (acalls_of_vc (hn := fun _ => false) (od := fun _ => none) Tryz.func22 rfl (by kernel_rfl) ?_))
  simp -dsimp
  refine acallsW_of (pcollect_ok l hl kb H hb) ?_
  rintro e H' ⟨rfl, rfl⟩
  by_cases h0 : l = []
  · subst h0
    simp -dsimp
    refine acallsW_det (acalls_sortFunc_none Tryz.sortPl) ?_
    simp -dsimp
    refine tidy_weak (r' := .vs 3 []) (.nil 3) ?_
    exact tidy_same rfl ⟨rfl, rfl⟩
  · have hn : l.map Pl.cells ≠ [] := by simpa using h0
    have e1 : ownS H.length (l.map Pl.cells) = .hs H.length 0 l.length l.length := by rw [ownS, if_neg hn]; simp
    have e2 : ownB 41 3 (l.map Pl.cells) = .row 41 3 (l.map Pl.cells) := by rw [ownB, if_neg hn]
    rw [e1, e2]
    simp -dsimp
    refine acallsW_of (psort_ok l hl H.length (H ++ [.row 41 3 (l.map Pl.cells)]) (by simp)) ?_
    rintro e H' ⟨rfl, ys, h1, h2, rfl⟩
    have hyn : ys.map Pl.cells ≠ [] := by
      intro h; rw [List.map_eq_nil_iff] at h; subst h; exact h0 (List.nil_perm.1 h1 )
    have e3 : AV.hs H.length 0 l.length l.length = ownS H.length (ys.map Pl.cells) := by rw [ownS, if_neg hyn]; simp [h1.length_eq]
    have e4 : (H ++ [Blk.row 41 3 (l.map Pl.cells)]).set H.length (.row 41 3 (ys.map Pl.cells)) = H ++ [ownB 41 3 (ys.map Pl.cells)] := by rw [ownB, if_neg hyn]; simp
    rw [e4]
    simp -dsimp
    rw [e3]
    exact tidyF_own hu 3 _ _ [] (pls_frzB ys) ⟨ys, h1, h2, rfl, rfl⟩
end Go.Proofs
namespace Go.Proofs
open Go.Mu
theorem pl_indexF (l : List Pl) (p : Pl → Bool) (g : FuncId) (cap : List AV) (hok : okFn Tryz.prog g = true) (hl : l.length ≤ 2^40) (H : List Blk) (hg : ∀ x ∈ l, ACalls Tryz.prog g (.agg x.cells :: cap) H (fun e H' => e = .ret (Bo (p x)) ∧ H' = H)) :
    ACalls Tryz.prog 35 [.vs 3 (l.map fun x => x.cells), .fn (.func g) [] cap] H (fun e H' => e = .ret (I (idxP p l 0)) ∧ H' = H) := by
  refine acalls_tidy (acalls_of_vc (hn := fun _ => false) (od := fun _ => none) Tryz.func35 rfl (by kernel_rfl) ?_)
  simp -dsimp
  refine loop_rule (hn := fun _ => false) (od := fun _ => none) (fun (i : Nat) f H' => H' = H ∧ f 0 = .vs 3 (l.map fun x => x.cells) ∧ f 1 = .fn (.func g) [] cap ∧ f 7 = I l.length ∧ f 8 = I i ∧ i ≤ l.length ∧ idxP p (l.drop i) i = idxP p l 0) (fun i => l.length - i) (by kernel_rfl) 0 (by simp) ?_
  rintro i f H' ⟨rfl, h0, h1, h7, h8, hi, hinv⟩
  simp -dsimp [h0, h1, h7, h8]
  refine condVW_introD (fun hlt => ?_) (fun hlt => ?_)
  · rw [drop_cons hlt, idxP] at hinv
    have hx := hg l[i] (List.getElem_mem hlt)
    try simp only [Vr.cells, Fc.cells] at hx
    simp -dsimp [h0, h1, h7, h8, List.getElem?_eq_getElem, hlt, hok]
    refine acallsW_det hx ?_
    simp -dsimp
    refine condVW_intro (fun hp => ?_) (fun hp => ?_)
    · simp -dsimp
      rw [if_pos hp] at hinv
      exact tidy_now rfl ⟨by rw [hinv], rfl⟩
    · simp -dsimp [h0, h1, h7, h8]
      rw [if_neg (by simp [hp])] at hinv
      exact ⟨i + 1, by omega, wrapS (by omega), by omega, by simpa using hinv⟩
  · simp -dsimp
    rw [drop_end hlt, idxP] at hinv
    exact tidy_now rfl ⟨by rw [hinv], rfl⟩
theorem pl_containsF (l : List Pl) (p : Pl → Bool) (g : FuncId) (cap : List AV) (hok : okFn Tryz.prog g = true) (hl : l.length ≤ 2^40) (H : List Blk) (hg : ∀ x ∈ l, ACalls Tryz.prog g (.agg x.cells :: cap) H (fun e H' => e = .ret (Bo (p x)) ∧ H' = H)) :
    ACalls Tryz.prog 20 [.vs 3 (l.map fun x => x.cells), .fn (.func g) [] cap] H (fun e H' => e = .ret (Bo (l.any p)) ∧ H' = H) := by
  refine acalls_tidy (acalls_of_vc (hn := fun _ => false) (od := fun _ => none) Tryz.func20 rfl (by kernel_rfl) ?_)
  simp -dsimp
  refine acallsW_det (pl_indexF l p g cap hok hl _ hg) ?_
  simp -dsimp
  exact tidy_now rfl ⟨by rw [idxP_any _ _ _ (Int.le_refl 0)], rfl⟩
theorem ba_eqb (a b : ByteArray) : (a.toList == b.toList) = decide (a = b) := by
  rw [Bool.eq_iff_iff, ba_toList, decide_eq_true_eq]
def sameP (v : Vr) (x : Pl) : Bool := decide (x.name = v.name) && (x.size == v.size)
theorem heldB_eq (a : List Vr) (l : List Pl) : heldB a l = a.all fun v => l.any (sameP v) := by
  unfold heldB sameP
  simp only [ba_eqb]
theorem same_ok (x : Pl) (v : Vr) (k : Nat) (H : List Blk) (hk : H[k]? = some (.box 39 v.cells)) : ACalls Tryz.prog 21 [.agg x.cells, .bp k 0] H (fun e H' => e = .ret (Bo (sameP v x)) ∧ H' = H) := by
  refine acalls_tidy (acalls_of_vc (hn := fun _ => false) (od := fun _ => none) Tryz.func21 rfl (by kernel_rfl) ?_)
  have fin : ∀ b L, b = sameP v x → Tidy H (fun e H' => e = .ret (Bo (sameP v x)) ∧ H' = H) (.ret (Bo b)) (H ++ L) := fun b L h => by rw [h]; exact tidy_same rfl ⟨rfl, rfl⟩
  have hk2 : ∀ X, (H ++ [X])[k]? = some (.box 39 [St v.name, I v.kind, I v.size, Bo v.secret]) := fun X => get_app_old hk _
  simp -dsimp [hk2]
  refine guardVW_introTD (fun h => ?_) (fun h => ?_)
  · simp -dsimp [hk2, h]
    refine fin _ _ ?_
    simp [sameP, h]
  · simp -dsimp [h]
    refine fin _ _ ?_
    simp [sameP, h]
theorem seenF_set (s n : ByteArray) (b : Bool) (T : Tab) : seenB s (aset n b T) = if s = n then b else seenB s T := by
  unfold seenB; rw [alook_set]; split <;> rfl
theorem varsF_new : ∀ (l : List Vr) (O R : Tab), varsE l O R = 0 → (∀ v ∈ l, seenB v.name O = false) ∧ (l.map Vr.name).Nodup
  | [], _, _, _ => by simp
  | v :: l, O, R, h => by
    rw [varsE] at h
    obtain ⟨h1, h2⟩ := thenF_inv h
    obtain ⟨i1, i2⟩ := varsF_new l _ _ h2
    have h1 := mustF_inv h1 (by decide)
    have hs : seenB v.name O = false := by simp at h1; exact h1.2
    have hw : ∀ w ∈ l, w.name ≠ v.name ∧ seenB w.name O = false := fun w hw => by
      have := i1 w hw
      rw [seenF_set] at this
      split at this
      · cases this
      · exact ⟨by assumption, this⟩
    refine ⟨fun w hw' => ?_, ?_⟩
    · rcases List.mem_cons.1 hw' with rfl | hm
      · exact hs
      · exact (hw w hm).2
    · rw [List.map_cons, List.nodup_cons]
      refine ⟨fun hm => ?_, i2⟩
      obtain ⟨w, hm, e⟩ := List.mem_map.1 hm
      exact (hw w hm).1 e
theorem may_names {p : Pg} {F : Fc} (h : mayE p = 0) (hF : p.funcs[0]? = some F) : ((stkV F.vars).map Vr.name).Nodup := by
  unfold mayE at h
  obtain ⟨_, h⟩ := thenF_inv h
  obtain ⟨h, _⟩ := thenF_inv h
  unfold namesE at h
  obtain ⟨_, h⟩ := thenF_inv h
  obtain ⟨_, h⟩ := thenF_inv h
  have := allF_0 h F (List.mem_of_getElem? hF)
  unfold nameF at this
  have := (varsF_new _ _ _ (thenF_inv this).1).2
  rw [List.map_append] at this
  have := (List.nodup_append.1 this).2.1
  exact this.sublist ((List.filter_sublist).map _)
theorem fits_ok (p : Pg) (hp : p.OkF) (l : Ly) (hl : l.places.length ≤ 2^36) (H : List Blk) : ACalls Tryz.prog 10 [.agg p.cells, .agg l.cells] H (fun e H' => e = .ret (Bo (fitB p l)) ∧ H' = H) := by
  refine acalls_tidy (acalls_of_vc (hn := fun _ => false) (od := fun _ => none) Tryz.func10 rfl (by kernel_rfl) ?_)
  have fin : ∀ b L, b = fitB p l → Tidy H (fun e H' => e = .ret (Bo (fitB p l)) ∧ H' = H) (.ret (Bo b)) (H ++ L) := fun b L h => by rw [h]; exact tidy_same rfl ⟨rfl, rfl⟩
  have cm := fun H => fmay_ok p hp H
  simp only [Pg.cells] at cm
  obtain ⟨bP, hbP⟩ : ∃ bP, bP = Blk.box 25 [Rg.sl p.regions, Fc.sl p.funcs] := ⟨_, rfl⟩
  obtain ⟨bL, hbL⟩ : ∃ bL, bL = Blk.box 30 [Pl.sl l.places, I l.size] := ⟨_, rfl⟩
  obtain ⟨V, hV⟩ : ∃ V : List Blk → List Blk, V = fun L => H ++ bP :: bL :: L := ⟨_, rfl⟩
  have hVe : ∀ L, V L = H ++ bP :: bL :: L := fun L => by rw [hV]
  have vA : ∀ L R, V L ++ R = V (L ++ R) := fun L R => by rw [hVe, hVe]; simp
  have vL : ∀ L, (V L).length = H.length + 2 + L.length := fun L => by rw [hVe]; simp; omega
  have v0 : ∀ L, (V L)[H.length]? = some (.box 25 [Rg.sl p.regions, Fc.sl p.funcs]) := fun L => by rw [hVe, ← hbP]; simp
  have v1 : ∀ L, (V L)[H.length + 1]? = some (.box 30 [Pl.sl l.places, I l.size]) := fun L => by rw [hVe, ← hbL]; simp
  have vN : ∀ L X, (V (L ++ [X]))[(V L).length]? = some X := fun L X => by rw [← vA]; simp
  have vS : ∀ L X Y, (V (L ++ [X])).set (V L).length Y = V (L ++ [Y]) := fun L X Y => by rw [← vA, ← vA]; simp
  have vG : ∀ L X R, (V (L ++ X :: R))[(V L).length]? = some X := fun L X R => by rw [← vA]; simp
  have g0 : H ++ [bP] ++ [bL] = V [] := by rw [hVe]; simp
  have g0' : H ++ [bP, bL] = V [] := by rw [hVe]
  have hfin : ∀ b L, b = fitB p l → Tidy H (fun e H' => e = .ret (Bo (fitB p l)) ∧ H' = H) (.ret (Bo b)) (V L) := fun b L h => by rw [hVe]; exact fin b _ h
  clear hV
  simp -dsimp
  rw [← hbP, ← hbL, g0']
  refine acallsW_det (cm _) ?_
  simp -dsimp
  refine guardVW_introFNE (fun h1 h1a h1b => ?_) (fun h1 => ?_)
  · simp -dsimp [h1b]
    refine hfin _ _ ?_
    simp [fitB, h1]
  have h1b : (whyF p != 0) = false := by simp [h1]
  simp -dsimp [v1, h1b]
  refine guardVW_introFD (fun h2 => ?_) (fun h2 => ?_)
  · simp -dsimp [h2]
    refine hfin _ _ ?_
    have : ¬ 0 ≤ l.size := by omega
    simp [fitB, sizeOkB, this]
  simp -dsimp [v1, h2]
  refine guardVW_introFD (fun h3 => ?_) (fun h3 => ?_)
  · simp -dsimp [h3]
    refine hfin _ _ ?_
    have : ¬ l.size ≤ 8192 := by omega
    simp [fitB, sizeOkB, this]
  simp -dsimp [v1, h3]
  have hmod : l.size.tmod 16 = l.size % 16 := Int.tmod_eq_emod_of_nonneg (by omega)
  rw [hmod]
  refine condVW_introNE (fun h4 _ _ => ?_) (fun h4 => ?_)
  · simp -dsimp
    refine hfin _ _ ?_
    simp [fitB, sizeOkB, h4]
  have hS : sizeOkB l.size = true := by
    unfold sizeOkB
    simp only [Bool.and_eq_true, decide_eq_true_eq]
    omega
  have hm : mayE p = 0 := by
    by_cases hm : mayE p = 0
    · exact hm
    · rw [whyF, if_pos hm] at h1; exact absurd h1 hm
  obtain ⟨F, hF⟩ := may_arr hm
  have hFv := hp.vars F (List.mem_of_getElem? hF.fn)
  have ca := fun H => arrays_ok p F hF.fn hFv H
  simp only [Pg.cells] at ca
  have hfb : fitB p l = (decide ((arrV p).length = l.places.length) && placesB (arrV p) l.size [] l.places) := by
    unfold fitB
    rw [hS, decide_eq_true h1]; simp
  rw [hF.arr] at hfb
  obtain ⟨A, hA⟩ : ∃ A, A = stkV F.vars := ⟨_, rfl⟩
  have hAl := hF.len
  have hAs := hF.sz
  rw [← hA] at hfb hAl hAs ca
  simp -dsimp [v0]
  refine acallsW_det (ca _) ?_
  simp -dsimp [v1]
  refine condVW_introNE (fun h5 _ _ => ?_) (fun h5 => ?_)
  · simp -dsimp
    refine hfin _ _ ?_
    rw [hfb, decide_eq_false (by omega), Bool.false_and]
  simp -dsimp
  have h5' : A.length = l.places.length := by omega
  rw [decide_eq_true h5', Bool.true_and] at hfb
  refine loop_rule (hn := fun _ => false) (od := fun _ => none) (fun (x : Nat × List Blk) f H' => H' = V x.2 ∧ f 3 = .bp (H.length + 1) 0 ∧ f 39 = Vr.sl A ∧ f 40 = I A.length ∧ f 41 = I x.1 ∧ x.1 ≤ A.length ∧ heldB (A.take x.1) l.places = true)
    (fun x => A.length - x.1) (by kernel_rfl) (0, []) (by simp [heldB]) ?_
  rintro ⟨i, L⟩ f _ ⟨rfl, f3, f39, f40, f41, hi, hh⟩
  simp only at f41 hi hh
  simp -dsimp [f3, f39, f40, f41]
  refine condVW_introD (fun hlt => ?_) (fun hlt => ?_)
  · have hlt' : i < A.length := by omega
    have hx := List.getElem?_eq_getElem hlt'
    have ht : A.take (i + 1) = A.take i ++ [A[i]] := List.take_succ_eq_append_getElem hlt'
    have hmv : A[i] ∈ A := List.getElem_mem hlt'
    obtain ⟨v, hv⟩ : ∃ v, v = A[i] := ⟨_, rfl⟩
    rw [← hv] at hx ht hmv
    have w1 : IntKind.i64.wrap ((i : Int) + 1) = ((i + 1 : Nat) : Int) := wrapS (by omega)
    have cc := fun L => pl_containsF l.places (sameP v) 21 [.bp (V L).length 0] (by kernel_rfl) (by omega) (V (L ++ [Blk.box 39 [St v.name, I v.kind, I v.size, Bo v.secret]])) (fun x _ => same_ok x v _ _ (vN _ _))
    simp -dsimp [f3, f39, f40, f41, hx, vA, vN, vS, v1]
    refine acallsW_det (cc L) ?_
    have hs : heldB (A.take (i + 1)) l.places = (heldB (A.take i) l.places && l.places.any (sameP v)) := by
      rw [ht, heldB_eq, heldB_eq, List.all_append]; simp
    simp -dsimp
    refine condVW_introB (fun h6 => ?_) (fun h6 => ?_)
    · simp -dsimp
      refine hfin _ _ ?_
      rw [hfb]
      refine (Bool.eq_false_iff.2 fun hc => ?_).symm
      have := places_held (by omega) (fun v hv => (hAs v hv).1) (hA ▸ may_names hm hF.fn) h5'.symm hc
      rw [heldB_eq, List.all_eq_true] at this
      rw [this v hmv] at h6
      cases h6
    · simp -dsimp [f3, f39, f40, f41]
      exact ⟨i + 1, by omega, ⟨_, rfl⟩, w1, by omega, by rw [hs, hh, h6]; rfl⟩
  · have hti : A.take i = A := List.take_of_length_le (by omega)
    rw [hti] at hh
    have hgood := held_all (hA ▸ may_names hm hF.fn) h5'.symm hh
    have cvl := fun H => pvalues_ok l.places H
    simp -dsimp [f3, v1]
    refine acallsW_of (cvl _) ?_
    rintro e H' ⟨rfl, rfl⟩
    simp -dsimp [vA]
    refine acallsW_of (psorted_ok l.places hl (V L).length _ (vN _ _)) ?_
    rintro e H' ⟨ys, hp1, hp2, rfl, rfl⟩
    have hsame := fit_same (S := l.size) (by omega) (fun v hv => (hAs v hv).1) (hA ▸ may_names hm hF.fn) h5'.symm hh hp1 hp2
    rw [← hfb] at hsame
    have hys : ∀ y ∈ ys, 1 ≤ y.size ∧ y.size ≤ 512 := fun y hy => by
      obtain ⟨v, hv, _, e⟩ := hgood.1 y (hp1.mem_iff.1 hy)
      rw [← e]; exact hAs v hv
    have hyl : ys.length ≤ 64 := by rw [hp1.length_eq]; omega
    simp -dsimp [f3]
    refine loop_rule (hn := fun _ => false) (od := fun _ => none) (fun (x : Nat × List Blk) f H' => H' = V x.2 ∧ f 3 = .bp (H.length + 1) 0 ∧ f 55 = Pl.sl ys ∧ f 56 = I ys.length ∧ f 57 = I x.1 ∧ x.1 ≤ ys.length ∧ ∃ n : Int, f 9 = I n ∧ 0 ≤ n ∧ n ≤ 8192 ∧ rowB l.size n (ys.drop x.1) = fitB p l)
      (fun x => ys.length - x.1) (by kernel_rfl) (0, L ++ [.box 28 [Pl.sl l.places]]) ⟨rfl, by simp [f3], by simp, by simp, by simp, by simp, 0, by simp, by omega, by omega, hsame⟩ ?_
    clear f3 f39 f40 f41
    rintro ⟨i, L⟩ f _ ⟨rfl, f3, f55, f56, f57, hi, n, f9, hn0, hn1, hrow⟩
    simp only at f57 hi hrow
    simp -dsimp [f3, f55, f56, f57, f9]
    refine condVW_introD (fun hlt => ?_) (fun hlt => ?_)
    · have hlt' : i < ys.length := by omega
      have hx := List.getElem?_eq_getElem hlt'
      have ht : ys.drop i = ys[i] :: ys.drop (i + 1) := List.drop_eq_getElem_cons hlt'
      have hys := hys ys[i] (List.getElem_mem hlt')
      obtain ⟨y, hy⟩ : ∃ y, y = ys[i] := ⟨_, rfl⟩
      rw [← hy] at hx ht hys
      rw [ht, rowB] at hrow
      have w1 : IntKind.i64.wrap ((i : Int) + 1) = ((i + 1 : Nat) : Int) := wrapS (by omega)
      have w2 : IntKind.i64.wrap (8 * y.size) = 8 * y.size := wrapI (by omega) (by omega)
      have w3 : IntKind.i64.wrap (l.size - 8 * y.size) = l.size - 8 * y.size := wrapI (by omega) (by omega)
      simp -dsimp [f3, f55, f56, f57, f9, hx, vA, vN, vS]
      refine guardVW_introFD (fun q1 => ?_) (fun q1 => ?_)
      · rw [decide_eq_true q1] at hrow
        simp -dsimp [q1]
        exact hfin _ _ (by rw [← hrow]; rfl)
      have hmod : y.at_.tmod 8 = y.at_ % 8 := Int.tmod_eq_emod_of_nonneg (by omega)
      simp -dsimp [f3, f55, f56, f57, f9, hx, vA, vN, vS, q1, hmod]
      refine guardVW_introFNE (fun q2 q2a q2b => ?_) (fun q2 => ?_)
      · rw [decide_eq_false q2] at hrow
        simp -dsimp [q2b]
        exact hfin _ _ (by rw [← hrow]; simp)
      have q2b : (y.at_ % 8 != 0) = false := by simp [q2]
      simp -dsimp [f3, f55, f56, f57, f9, hx, vA, vN, vS, v1, q2b, w2, w3]
      refine condVW_introD (fun q3 => ?_) (fun q3 => ?_)
      · rw [decide_eq_true q3] at hrow
        simp -dsimp
        exact hfin _ _ (by rw [← hrow]; simp)
      have w4 : IntKind.i64.wrap (y.at_ + 8 * y.size) = y.at_ + 8 * y.size := wrapI (by omega) (by omega)
      rw [decide_eq_false q1, decide_eq_true q2, decide_eq_false q3] at hrow
      simp only [Bool.not_true, Bool.or_false, Bool.not_false, Bool.true_and] at hrow
      simp -dsimp [f3, f55, f56, f57, f9, hx, vA, vN, vS, w2, w4]
      exact ⟨i + 1, by omega, ⟨_, rfl⟩, w1, by omega, by omega, by omega, hrow⟩
    · simp -dsimp
      refine hfin _ _ ?_
      rw [List.drop_of_length_le (by omega), rowB] at hrow
      exact hrow
end Go.Proofs
namespace Go.Proofs
open Go.Mu
theorem larr_ok (p : Pg) (F : Fc) (hF : p.funcs[0]? = some F) (hv : F.vars.length ≤ 2^36) (H : List Blk) : ACalls Tryz.prog 9 [.agg p.cells] H (fun e H' => e = .ret (Vr.sl (stkV F.vars)) ∧ H' = H) := by
  refine acalls_under fun hu _ => acalls_tidy (acalls_weakE (acalls_spare 1 (acalls_of_vc (hn := fun d => d == 35) (od := fun _ => none) Tryz.func9 rfl (by kernel_rfl) ?_)))
  obtain ⟨bP, hbP⟩ : ∃ bP, bP = Blk.box 25 [Rg.sl p.regions, Fc.sl p.funcs] := ⟨_, rfl⟩
  obtain ⟨M, hM⟩ : ∃ M : List Vr → List Blk → List Blk, M = fun l L => H ++ ownB 39 4 (l.map Vr.cells) :: bP :: L := ⟨_, rfl⟩
  have hMe : ∀ l L, M l L = H ++ ownB 39 4 (l.map Vr.cells) :: bP :: L := fun l L => by rw [hM]
  have mA : ∀ l L R, M l L ++ R = M l (L ++ R) := fun l L R => by rw [hMe, hMe]; simp
  have mL : ∀ l L, (M l L).length = H.length + 2 + L.length := fun l L => by rw [hMe]; simp; omega
  have m0 : ∀ l L, (M l L)[H.length]? = some (ownB 39 4 (l.map Vr.cells)) := fun l L => by rw [hMe]; simp
  have m1 : ∀ l L, (M l L)[H.length + 1]? = some (.box 25 [Rg.sl p.regions, Fc.sl p.funcs]) := fun l L => by rw [hMe, ← hbP]; simp
  have s0 : ∀ l L l', (M l L).set H.length (ownB 39 4 (l'.map Vr.cells)) = M l' L := fun l L l' => by rw [hMe, hMe]; simp
  have g0 : H ++ [.pend] ++ [bP] = M [] [] := by rw [hMe]; simp
  have hlen : (H ++ [Blk.pend]).length = H.length + 1 := by simp
  clear hM
  obtain ⟨W, hW⟩ : ∃ W, W = H ++ [Blk.pend] := ⟨_, rfl⟩
  rw [show List.replicate 1 Blk.pend = [.pend] from rfl, ← hW]
  rw [← hW] at g0 hlen
  have hF2 : (p.funcs.map Fc.cells)[0]? = some F.cells := by rw [List.getElem?_map, hF]; rfl
  simp only [Fc.cells] at hF2
  simp -dsimp
  rw [hlen, ← hbP, g0]
  refine loop_rule (hn := fun d => d == 35) (od := fun _ => none) (fun (x : Nat × List Blk) f H' => H' = M (stkV (F.vars.take x.1)) x.2 ∧ f 1 = .bp (H.length + 1) 0 ∧ f 3 = ownS H.length ((stkV (F.vars.take x.1)).map Vr.cells) ∧ f 4 = I x.1 ∧ x.1 ≤ F.vars.length)
    (fun x => F.vars.length - x.1) (by kernel_rfl) (0, []) (by simp [stkV]) ?_
  rintro ⟨i, L⟩ f _ ⟨rfl, f1, f3, f4, hi⟩
  simp only at f3 f4 hi
  simp -dsimp [f1, f3, f4, m1, hF, hF2]
  refine condVW_introD (fun hlt => ?_) (fun hlt => ?_)
  · have hlt' : i < F.vars.length := by omega
    have hx := List.getElem?_eq_getElem hlt'
    have ht := stkV_take hlt'
    obtain ⟨v, hv'⟩ : ∃ v, v = F.vars[i] := ⟨_, rfl⟩
    rw [← hv'] at hx ht
    have w1 : IntKind.i64.wrap ((i : Int) + 1) = ((i + 1 : Nat) : Int) := wrapS (by omega)
    have hl1 := stkV_len (F.vars.take i)
    have hl2 : (F.vars.take i).length ≤ F.vars.length := by simp; omega
    by_cases hk : v.kind = 3
    · have hkb : (v.kind == 3) = true := by simpa using hk
      rw [if_pos hk] at ht
      simp -dsimp [f1, f3, f4, m1, hF, hF2, hx, hkb]
      refine appendVW_own (es := (stkV (F.vars.take i)).map Vr.cells) (by exact m0 _ _) (by simp; omega) (by simp; omega) ?_
      have hs : (stkV (F.vars.take i)).map Vr.cells ++ [[St v.name, I v.kind, I v.size, Bo v.secret]] = (stkV (F.vars.take (i + 1))).map Vr.cells := by rw [ht]; simp
      rw [hs, s0]
      simp -dsimp [f1, f3, f4]
      exact ⟨i + 1, by omega, ⟨_, rfl⟩, rfl, w1, by omega⟩
    · have hkb : (v.kind == 3) = false := by simpa using hk
      rw [if_neg hk, List.append_nil] at ht
      simp -dsimp [f1, f3, f4, m1, hF, hF2, hx, hkb]
      exact ⟨i + 1, by omega, ⟨_, by rw [ht]⟩, by rw [ht], w1, by omega⟩
  · have : F.vars.take i = F.vars := List.take_of_length_le (by omega)
    rw [this] at f3 ⊢
    simp -dsimp [f3]
    rw [hMe]
    exact tidyF_own hu 4 _ _ _ (vrsF_frzB _) ⟨rfl, rfl⟩
def whereF (p : Pg) (l : Ly) (n : ByteArray) : Int × Bool × Int :=
  if whyF p ≠ 0 then (0, false, whyF p) else if fitB p l = false then (0, false, 2) else
    match l.places.find? fun x => decide (x.name = n) with
    | some x => (x.at_, true, 0)
    | none => match p.regions.find? fun r => decide (r.name = n) with
      | some r => (r.addr, false, 0)
      | none => (0, false, 8)
theorem where_ok (p : Pg) (hp : p.OkF) (l : Ly) (hl : l.places.length ≤ 2^36) (n : ByteArray) (H : List Blk) : ACalls Tryz.prog 12 [.agg p.cells, .agg l.cells, St n] H (fun e H' => e = .ret (.tup [I (whereF p l n).1, Bo (whereF p l n).2.1, I (whereF p l n).2.2]) ∧ H' = H) := by
  refine acalls_tidy (acalls_of_vc (hn := fun _ => false) (od := fun _ => none) Tryz.func12 rfl (by kernel_rfl) ?_)
  obtain ⟨E, hE⟩ : ∃ E, E = whereF p l n := ⟨_, rfl⟩
  rw [← hE]
  unfold whereF at hE
  have cm := fun H => fmay_ok p hp H
  have cf := fun H => fits_ok p hp l hl H
  have hrg := hp.regions
  simp only [Pg.cells, Ly.cells] at cm cf
  obtain ⟨bP, hbP⟩ : ∃ bP, bP = Blk.box 25 [Rg.sl p.regions, Fc.sl p.funcs] := ⟨_, rfl⟩
  obtain ⟨bL, hbL⟩ : ∃ bL, bL = Blk.box 30 [Pl.sl l.places, I l.size] := ⟨_, rfl⟩
  obtain ⟨V, hV⟩ : ∃ V : List Blk → List Blk, V = fun L => H ++ bP :: bL :: L := ⟨_, rfl⟩
  have hVe : ∀ L, V L = H ++ bP :: bL :: L := fun L => by rw [hV]
  have vA : ∀ L R, V L ++ R = V (L ++ R) := fun L R => by rw [hVe, hVe]; simp
  have v0 : ∀ L, (V L)[H.length]? = some (.box 25 [Rg.sl p.regions, Fc.sl p.funcs]) := fun L => by rw [hVe, ← hbP]; simp
  have v1 : ∀ L, (V L)[H.length + 1]? = some (.box 30 [Pl.sl l.places, I l.size]) := fun L => by rw [hVe, ← hbL]; simp
  have vN : ∀ L X, (V (L ++ [X]))[(V L).length]? = some X := fun L X => by rw [← vA]; simp
  have vS : ∀ L X Y, (V (L ++ [X])).set (V L).length Y = V (L ++ [Y]) := fun L X Y => by rw [← vA, ← vA]; simp
  have g0' : H ++ [bP, bL] = V [] := by rw [hVe]
  have hfin : ∀ a b c L, E = (a, b, c) → Tidy H (fun e H' => e = .ret (.tup [I E.1, Bo E.2.1, I E.2.2]) ∧ H' = H) (.ret (.tup [I a, Bo b, I c])) (V L) := fun a b c L h => by rw [hVe, h]; exact tidy_same rfl ⟨rfl, rfl⟩
  clear hV
  simp -dsimp
  rw [← hbP, ← hbL, g0']
  refine acallsW_det (cm _) ?_
  simp -dsimp
  refine condVW_introNE (fun h1 h1a h1b => ?_) (fun h1 => ?_)
  · rw [if_pos h1] at hE
    simp -dsimp
    exact hfin _ _ _ _ hE
  rw [if_neg (by simpa using h1)] at hE
  simp -dsimp [v0, v1]
  refine acallsW_det (cf _) ?_
  simp -dsimp
  refine condVW_introB (fun h2 => ?_) (fun h2 => ?_)
  · rw [if_pos h2] at hE
    simp -dsimp
    exact hfin _ _ _ _ hE
  rw [if_neg (by simp [h2])] at hE
  simp -dsimp [v1]
  obtain ⟨rg, hrgE⟩ : ∃ rg : Int × Bool × Int, rg = match p.regions.find? (fun r => decide (r.name = n)) with | some r => (r.addr, false, 0) | none => (0, false, 8) := ⟨_, rfl⟩
  rw [← hrgE] at hE
  refine loop_rule (hn := fun _ => false) (od := fun _ => none) (fun (x : Nat × List Blk) f H' => H' = V x.2 ∧ f 2 = St n ∧ f 3 = .bp H.length 0 ∧ f 24 = Pl.sl l.places ∧ f 25 = I l.places.length ∧ f 26 = I x.1 ∧ x.1 ≤ l.places.length ∧ E = match (l.places.drop x.1).find? (fun x => decide (x.name = n)) with | some x => (x.at_, true, 0) | none => rg)
    (fun x => l.places.length - x.1) (by kernel_rfl) (0, []) ⟨rfl, by simp, by simp, by simp, by simp, by simp, by simp, hE⟩ ?_
  clear hE
  rintro ⟨i, L⟩ f _ ⟨rfl, f2, f3, f24, f25, f26, hi, hE⟩
  simp only at f26 hi hE
  simp -dsimp [f2, f3, f24, f25, f26]
  refine condVW_introD (fun hlt => ?_) (fun hlt => ?_)
  · have hlt' : i < l.places.length := by omega
    have hx := List.getElem?_eq_getElem hlt'
    have ht : l.places.drop i = l.places[i] :: l.places.drop (i + 1) := List.drop_eq_getElem_cons hlt'
    obtain ⟨y, hy⟩ : ∃ y, y = l.places[i] := ⟨_, rfl⟩
    rw [← hy] at hx ht
    rw [ht, List.find?_cons] at hE
    have w1 : IntKind.i64.wrap ((i : Int) + 1) = ((i + 1 : Nat) : Int) := wrapS (by omega)
    simp -dsimp [f2, f3, f24, f25, f26, hx, vA, vN, vS]
    refine condVW_introD (fun q1 => ?_) (fun q1 => ?_)
    · rw [decide_eq_true q1] at hE
      simp -dsimp [vN]
      exact hfin _ _ _ _ hE
    · rw [decide_eq_false q1] at hE
      simp -dsimp [f2, f3, f24, f25, f26]
      exact ⟨i + 1, by omega, ⟨_, rfl⟩, w1, by omega, hE⟩
  · rw [List.drop_of_length_le (by omega)] at hE
    simp only [List.find?_nil] at hE
    rw [hrgE] at hE
    clear hrgE f24 f25 f26
    simp -dsimp [f2, f3, v0]
    refine loop_rule (hn := fun _ => false) (od := fun _ => none) (fun (x : Nat × List Blk) f H' => H' = V x.2 ∧ f 2 = St n ∧ f 38 = Rg.sl p.regions ∧ f 39 = I p.regions.length ∧ f 40 = I x.1 ∧ x.1 ≤ p.regions.length ∧ E = match (p.regions.drop x.1).find? (fun r => decide (r.name = n)) with | some r => (r.addr, false, 0) | none => (0, false, 8))
      (fun x => p.regions.length - x.1) (by kernel_rfl) (0, L) ⟨rfl, by simp [f2], by simp, by simp, by simp, by simp, hE⟩ ?_
    clear hE f2 f3
    rintro ⟨i, L⟩ f _ ⟨rfl, f2, f38, f39, f40, hi, hE⟩
    simp only at f40 hi hE
    simp -dsimp [f2, f38, f39, f40]
    refine condVW_introD (fun hlt => ?_) (fun hlt => ?_)
    · have hlt' : i < p.regions.length := by omega
      have hx := List.getElem?_eq_getElem hlt'
      have ht : p.regions.drop i = p.regions[i] :: p.regions.drop (i + 1) := List.drop_eq_getElem_cons hlt'
      obtain ⟨y, hy⟩ : ∃ y, y = p.regions[i] := ⟨_, rfl⟩
      rw [← hy] at hx ht
      rw [ht, List.find?_cons] at hE
      have w1 : IntKind.i64.wrap ((i : Int) + 1) = ((i + 1 : Nat) : Int) := wrapS (by omega)
      simp -dsimp [f2, f38, f39, f40, hx, vA, vN, vS]
      refine condVW_introD (fun q1 => ?_) (fun q1 => ?_)
      · rw [decide_eq_true q1] at hE
        simp -dsimp [vN]
        exact hfin _ _ _ _ hE
      · rw [decide_eq_false q1] at hE
        simp -dsimp [f2, f38, f39, f40]
        exact ⟨i + 1, by omega, ⟨_, rfl⟩, w1, by omega, hE⟩
    · rw [List.drop_of_length_le (by omega)] at hE
      simp only [List.find?_nil] at hE
      simp -dsimp
      exact hfin _ _ _ _ hE
end Go.Proofs
namespace Go.Proofs
open Go.Mu
def nameI (i : Nat) : ByteArray := ⟨#[115, UInt8.ofNat (48 + i)]⟩
def mainV : Nat → List Int → List Vr
  | _, [] => []
  | i, s :: l => ⟨nameI i, 3, s, false⟩ :: mainV (i + 1) l
def strMain : ByteArray := ⟨#[109, 97, 105, 110]⟩
def mainP (l : List Int) : Pg := ⟨[], [⟨strMain, [], mainV 0 l, [], []⟩]⟩
theorem mainV_app : ∀ (a : List Int) (i : Nat) (b : List Int), mainV i (a ++ b) = mainV i a ++ mainV (i + a.length) b
  | [], i, b => by simp [mainV]
  | x :: a, i, b => by rw [List.cons_append, mainV, mainV, mainV_app a, List.cons_append, List.length_cons]; congr 3; omega
theorem mainV_len : ∀ (l : List Int) (i : Nat), (mainV i l).length = l.length
  | [], _ => rfl
  | x :: l, i => by rw [mainV, List.length_cons, mainV_len l, List.length_cons]
theorem main_fin {H : List Blk} (hu : underH H.length H = true) (A : List Vr) (L : List Blk) : Tidy H (WeakE fun e H' => e = AE.ret (AV.agg [Rg.sl [], Fc.sl [⟨strMain, [], A, [], []⟩]]) ∧ H' = H) (AE.ret (AV.agg [AV.v (Value.slice none 0 0), AV.hs (H.length + (3 + L.length)) 0 1 1]))
    (H ++ ownB 39 4 (A.map Vr.cells) :: Blk.box 25 [AV.v (Value.slice none 0 0), AV.hs (H.length + (3 + L.length)) 0 1 1] :: Blk.box 52 [St strMain, nilS, ownS H.length (A.map Vr.cells), nilS, nilS] :: (L ++ [Blk.row 52 5 [[St strMain, nilS, ownS H.length (A.map Vr.cells), nilS, nilS]]])) := by
  have fin : ∀ a X, Weak a (Vr.sl A) → AV.frzB a = true → AV.under H.length a = true → Tidy H (WeakE fun e H' => e = AE.ret (AV.agg [Rg.sl [], Fc.sl [⟨strMain, [], A, [], []⟩]]) ∧ H' = H) (AE.ret (AV.agg [nilS, .vs 5 [[St strMain, nilS, a, nilS, nilS]]])) (H ++ X) := by
    intro a X hw hz hun
    refine tidy_same (by simp [AV.under, underL, hun]) ?_
    exact tidy_weak (r' := AV.agg [Rg.sl [], Fc.sl [⟨strMain, [], A, [], []⟩]]) (.aggL (.cons (.nil _) (.cons (.vsR (.cons (.cons (.refl _) (.cons (.nil _) (.cons hw (.cons (.nil _) (.cons (.nil _) .nil))))) .nil)) .nil))) ⟨rfl, rfl⟩
  by_cases hA : A = []
  · subst hA
    rw [List.map_nil, ownS_nil]
    refine tidy_give hu (3 + L.length) 5 52 [[St strMain, nilS, nilS, nilS, nilS]] (by simp [List.getElem?_cons]) (by simp [AV.frzB]) ?_
    simp [AV.frz, frzL]
    exact fin _ _ (.nil 4) rfl rfl
  · have hw : A.map Vr.cells ≠ [] := by simpa using hA
    have hz : (Vr.sl A).frzB = true := by
      simp [AV.frzB]
    have e1 : (AV.agg [nilS, .hs (H.length + (3 + L.length)) 0 1 1]).frz (H.length + 0) 4 (A.map Vr.cells) = .agg [nilS, .hs (H.length + (3 + L.length)) 0 1 1] := by
      simp only [AV.frz, frzL]
      rw [if_neg (by omega)]
    refine tidy_give hu 0 4 39 (A.map Vr.cells) (by rw [ownB, if_neg hw]; rfl) (vrsF_frzB A) ?_
    rw [e1]
    have e2 : ([St strMain, nilS, ownS H.length (A.map Vr.cells), nilS, nilS].map (AV.frz (H.length + 0) 4 (A.map Vr.cells))) = [St strMain, nilS, Vr.sl A, nilS, nilS] := by
      simp only [List.map_cons, List.map_nil, Nat.add_zero, frz_own _ _ _ hw]
      rfl
    refine tidy_give hu (3 + L.length) 5 52 [[St strMain, nilS, Vr.sl A, nilS, nilS]] ?_ ?_ ?_
    · have h0 : ∀ (a b c d : Blk), ((a :: b :: c :: (L ++ [d])).map (Blk.frz (H.length + 0) 4 (A.map Vr.cells)))[3 + L.length]? = some (d.frz (H.length + 0) 4 (A.map Vr.cells)) := by
        intro a b c d
        rw [List.getElem?_map, show 3 + L.length = L.length + 1 + 1 + 1 by omega]
        simp
      rw [List.getElem?_set_ne (by omega), h0]
      simp only [Blk.frz, List.map_cons, List.map_nil, frzL_map]
      rw [← e2]; rfl
    · simp only [List.flatten_cons, List.flatten_nil, List.append_nil, List.all_cons, List.all_nil, hz]; rfl
    · have e3 : (AV.agg [nilS, .hs (H.length + (3 + L.length)) 0 1 1]).frz (H.length + (3 + L.length)) 5 [[St strMain, nilS, Vr.sl A, nilS, nilS]] = .agg [nilS, .vs 5 [[St strMain, nilS, Vr.sl A, nilS, nilS]]] := by
        simp [AV.frz, frzL]
      rw [e3]
      exact fin _ _ (.refl _) hz rfl
theorem main_ok (l : List Int) (hl : l.length ≤ 3) (H : List Blk) : ACalls Tryz.prog 14 [.vs 1 (l.map fun x => [I x])] H (fun e H' => e = .ret (.agg (mainP l).cells) ∧ H' = H) := by
  refine acalls_under fun hu _ => acalls_weakE (acalls_tidy (acalls_spare 1 (acalls_of_vc (hn := fun d => d == 26 || d == 29) (od := fun _ => none) Tryz.func14 rfl (by kernel_rfl) ?_)))
  obtain ⟨M, hM⟩ : ∃ M : List Vr → List Blk → List Blk, M = fun l L => H ++ ownB 39 4 (l.map Vr.cells) :: .box 25 [nilS, nilS] :: .box 52 [St strMain, nilS, ownS H.length (l.map Vr.cells), nilS, nilS] :: L := ⟨_, rfl⟩
  have hMe : ∀ l L, M l L = H ++ ownB 39 4 (l.map Vr.cells) :: .box 25 [nilS, nilS] :: .box 52 [St strMain, nilS, ownS H.length (l.map Vr.cells), nilS, nilS] :: L := fun l L => by rw [hM]
  have mA : ∀ l L R, M l L ++ R = M l (L ++ R) := fun l L R => by rw [hMe, hMe]; simp
  have m0 : ∀ l L, (M l L)[H.length]? = some (ownB 39 4 (l.map Vr.cells)) := fun l L => by rw [hMe]; simp
  have m2 : ∀ l L, (M l L)[H.length + 2]? = some (.box 52 [St strMain, nilS, ownS H.length (l.map Vr.cells), nilS, nilS]) := fun l L => by rw [hMe]; simp
  have m1 : ∀ l L, (M l L)[H.length + 1]? = some (.box 25 [nilS, nilS]) := fun l L => by rw [hMe]; simp
  have s1 : ∀ l L X, (M l L).set (H.length + 1) X = H ++ ownB 39 4 (l.map Vr.cells) :: X :: .box 52 [St strMain, nilS, ownS H.length (l.map Vr.cells), nilS, nilS] :: L := fun l L X => by rw [hMe]; simp
  have g1 : ∀ l L X, ((M l L).set (H.length + 1) X)[H.length + 1]? = some X := fun l L X => by rw [hMe]; simp
  have g02 : ∀ l (l' : List Vr) L, ((M l L).set H.length (ownB 39 4 (l'.map Vr.cells)))[H.length + 2]? = some (.box 52 [St strMain, nilS, ownS H.length (l.map Vr.cells), nilS, nilS]) := fun l l' L => by rw [hMe]; simp
  have s02 : ∀ l (l' : List Vr) L, ((M l L).set H.length (ownB 39 4 (l'.map Vr.cells))).set (H.length + 2) (.box 52 [St strMain, nilS, ownS H.length (l'.map Vr.cells), nilS, nilS]) = M l' L := fun l l' L => by rw [hMe, hMe]; simp
  have g0 : H ++ [.pend] ++ [.box 25 [nilS, nilS], .box 52 [St strMain, nilS, nilS, nilS, nilS]] = M [] [] := by rw [hMe]; simp
  have hlen : (H ++ [Blk.pend]).length = H.length + 1 := by simp
  clear hM
  obtain ⟨W, hW⟩ : ∃ W, W = H ++ [Blk.pend] := ⟨_, rfl⟩
  rw [show List.replicate 1 Blk.pend = [.pend] from rfl, ← hW]
  rw [← hW] at g0 hlen
  have hnm : ⟨#[109, 97, 105, 110]⟩ = strMain := rfl
  simp -dsimp [hnm, hlen]
  rw [g0]
  refine loop_rule (hn := fun d => d == 26 || d == 29) (od := fun _ => none) (fun (x : Nat × List Blk) f H' => H' = M (mainV 0 (l.take x.1)) x.2 ∧ f 0 = .vs 1 (l.map fun x => [I x]) ∧ f 2 = .bp (H.length + 1) 0 ∧ f 3 = .bp (H.length + 2) 0 ∧ f 4 = I x.1 ∧ x.1 ≤ l.length)
    (fun x => l.length - x.1) (by kernel_rfl) (0, []) (by simp [mainV]) ?_
  rintro ⟨i, L⟩ f _ ⟨rfl, f0, f2, f3, f4, hi⟩
  simp only at f4 hi
  simp -dsimp [f0, f2, f3, f4]
  refine condVW_introD (fun hlt => ?_) (fun hlt => ?_)
  · have hlt' : i < l.length := by omega
    have hx := List.getElem?_eq_getElem hlt'
    have ht : l.take (i + 1) = l.take i ++ [l[i]] := List.take_succ_eq_append_getElem hlt'
    obtain ⟨v, hv'⟩ : ∃ v, v = l[i] := ⟨_, rfl⟩
    rw [← hv'] at hx ht
    have w1 : IntKind.i64.wrap ((i : Int) + 1) = ((i + 1 : Nat) : Int) := wrapS (by omega)
    have hb : binS BinOp.add ⟨#[115]⟩ (strOfNums [IntKind.u8.wrap (IntKind.i64.wrap (48 + (i : Int)))]) = some (.string (nameI i)) := by
      have : i = 0 ∨ i = 1 ∨ i = 2 := by omega
      rcases this with rfl | rfl | rfl <;> rfl
    simp -dsimp [f0, f2, f3, f4, hx, m2, hb]
    refine appendVW_own (es := (mainV 0 (l.take i)).map Vr.cells) (by exact m0 _ _) (by simp [mainV_len]; omega) (by simp [mainV_len]; omega) ?_
    have hs : (mainV 0 (l.take i)).map Vr.cells ++ [[St (nameI i), I 3, I v, Bo false]] = (mainV 0 (l.take (i + 1))).map Vr.cells := by
      have hll : (l.take i).length = i := by simp; omega
      rw [ht, mainV_app, hll]; simp [mainV]
    rw [hs]
    simp -dsimp [f0, f2, f3, f4, g02, s02]
    exact ⟨i + 1, by omega, ⟨_, rfl⟩, w1, by omega⟩
  · have : l.take i = l := List.take_of_length_le (by omega)
    rw [this]
    obtain ⟨A, hA⟩ : ∃ A, A = mainV 0 l := ⟨_, rfl⟩
    have hP : mainP l = ⟨[], [⟨strMain, [], A, [], []⟩]⟩ := by rw [hA]; rfl
    rw [hP, ← hA]
    simp -dsimp [f0, f2, f3, f4, m2, mA, m1, g1]
    rw [s1]
    have hlen : (M A L).length = H.length + (3 + L.length) := by rw [hMe]; simp; omega
    rw [hlen]
    exact main_fin hu A L
theorem lay31 : layF (mainP [3, 1]) = (⟨[⟨nameI 0, 0, 3⟩, ⟨nameI 1, 24, 1⟩], 32⟩, 0) := by kernel_rfl
theorem lay0 : layF (mainP []) = (⟨[], 0⟩, 0) := by kernel_rfl
theorem lay5 : layF (mainP [512, 512, 1]) = (⟨[], 0⟩, 5) := by kernel_rfl
theorem lay2 : (layF (mainP [512, 512])).2 = 0 := by kernel_rfl
end Go.Proofs
namespace Go.Proofs
open Go.Mu
theorem mainV_name : ∀ (l : List Int) (i : Nat), ∀ v ∈ mainV i l, v.name.size = 2
  | [], _, v, h => by cases h
  | x :: l, i, v, h => by
    rcases List.mem_cons.1 h with rfl | h
    · rfl
    · exact mainV_name l _ v h
theorem main_okF (l : List Int) (hl : l.length ≤ 3) : (mainP l).OkF := by
  have hf : ∀ f ∈ (mainP l).funcs, f = ⟨strMain, [], mainV 0 l, [], []⟩ := fun f hf => by simpa [mainP] using hf
  have hv : (mainV 0 l).length ≤ 3 := by rw [mainV_len]; exact hl
  refine ⟨⟨⟨by simp [mainP], by simp [mainP], fun f h => by rw [hf f h]; exact Nat.zero_le _, fun f h => by rw [hf f h]; simp, fun f h => by rw [hf f h]; simp only; omega, fun f h => by rw [hf f h]; simp⟩,
    ⟨by simp [mainP], fun f h => ?_⟩, fun f h => by rw [hf f h]; exact Nat.zero_le _⟩, fun f h => by rw [hf f h]; exact Nat.zero_le _, fun f h => by rw [hf f h]; simp only; omega, by simp [mainP], by simp [mainP]⟩
  rw [hf f h]
  refine ⟨by exact (by decide : strMain.size ≤ 2^40), fun v h => ?_, by simp⟩
  have := mainV_name l 0 v (by simpa using h)
  omega
theorem known_ok (H : List Blk) : ACalls Tryz.prog 6 [] H (fun e H' => e = .ret (Bo true) ∧ H' = H) := by
  refine acalls_tidy (acalls_of_vc (hn := fun _ => false) (od := fun _ => none) Tryz.func6 rfl (by kernel_rfl) ?_)
  have c1 := fun H => main_ok [3, 1] (by decide) H
  have c2 := fun H => main_ok [] (by decide) H
  have c3 := fun H => main_ok [512, 512, 1] (by decide) H
  have c4 := fun H => main_ok [512, 512] (by decide) H
  have d1 := fun H => lay_ok _ (main_okF [3, 1] (by decide)) H
  have d2 := fun H => lay_ok _ (main_okF [] (by decide)) H
  have d3 := fun H => lay_ok _ (main_okF [512, 512, 1] (by decide)) H
  have d4 := fun H => lay_ok _ (main_okF [512, 512] (by decide)) H
  rw [lay31] at d1
  rw [lay0] at d2
  rw [lay5] at d3
  obtain ⟨Q, hQ⟩ : ∃ Q, Q = (layF (mainP [512, 512])).1 := ⟨_, rfl⟩
  rw [lay2, ← hQ] at d4
  simp only [Ly.cells, List.map_cons, List.map_nil, Pl.cells] at c1 c2 c3 c4 d1 d2 d3 d4
  generalize (mainP [3, 1]).cells = P1 at c1 d1
  generalize (mainP []).cells = P2 at c2 d2
  generalize (mainP [512, 512, 1]).cells = P3 at c3 d3
  generalize (mainP [512, 512]).cells = P4 at c4 d4
  simp -dsimp
  refine acallsW_det (c1 _) ?_
  simp -dsimp
  refine acallsW_det (d1 _) ?_
  simp -dsimp
  refine acallsW_det (acalls_weak (.cons (.nil 1) .nil) (c2 _)) ?_
  simp -dsimp
  refine acallsW_det (d2 _) ?_
  simp -dsimp
  refine acallsW_det (c3 _) ?_
  simp -dsimp
  refine acallsW_det (d3 _) ?_
  simp -dsimp
  refine acallsW_det (c4 _) ?_
  simp -dsimp
  refine acallsW_det (d4 _) ?_
  simp -dsimp
  have n0 : ((nameI 0).toList == [115, 48]) = true := by decide +kernel
  have n1 : ((nameI 1).toList == [115, 49]) = true := by decide +kernel
  simp -dsimp [n0, n1]
  exact tidy_same rfl ⟨rfl, rfl⟩
end Go.Proofs
namespace Go.Proofs.YtfoghfmmcogheaaGreat.Lift
open Go.ChangeShapes Go.WideShapes Go.ChangeAt Go.RowKit Go.Mu Go.Proofs
section
variable {H : Type} {enc : TypeId × Value → H} {cx : Cx}
theorem tells_i (t : TypeId) (h : Tryz.prog.underlying t = some (.int .i64)) (n : Nat) : Tells enc Tryz.prog cx n t (fun i : Int => [I i]) (fun _ => 1) (fun _ => True) := (tells_int h).map id (fun _ => rfl) (fun _ => Nat.le_refl _) (fun _ _ => trivial)
theorem tells_u (n : Nat) : Tells enc Tryz.prog cx n 69 (fun i : Int => [U i]) (fun _ => 1) (fun _ => True) := (tells_int (by kernel_rfl)).map id (fun _ => rfl) (fun _ => Nat.le_refl _) (fun _ _ => trivial)
theorem tells_b (n : Nat) : Tells enc Tryz.prog cx n 4 (fun b : Bool => [Bo b]) (fun _ => 1) (fun _ => True) := tells_bool (by kernel_rfl)
theorem tells_s (n : Nat) : Tells enc Tryz.prog cx n 9 (fun s : ByteArray => [St s]) (fun s => s.size + 1) (fun _ => True) := tells_string (by kernel_rfl)
theorem sizes_mem {α : Type} {size : α → Nat} {l : List α} {a : α} (h : a ∈ l) : size a ≤ sizes size l := by
  induction l with
  | nil => cases h
  | cons b l ih =>
    simp only [sizes, List.map_cons, List.sum_cons] at ih ⊢
    rcases List.mem_cons.1 h with rfl | h
    · omega
    · have := ih h; omega
theorem exs_sizes (l : List Ex) : sizes Ex.count l = exsCount l := by
  induction l with
  | nil => rfl
  | cons e l ih => simp only [sizes, List.map_cons, List.sum_cons, exsCount] at ih ⊢; omega
theorem sms_sizes (l : List Sm) : sizes Sm.count l = smsCount l := by
  induction l with
  | nil => rfl
  | cons e l ih => simp only [sizes, List.map_cons, List.sum_cons, smsCount] at ih ⊢; omega
theorem tells_strs (hΦ : ∀ b, b < cx.w.heap.size → cx.Φ b) : ∀ n, Tells enc Tryz.prog cx n 49 (fun l : List ByteArray => [St.sl l]) (sizes fun s => s.size + 1) (fun _ => True)
  | 0 => tells_zero
  | n + 1 => (tells_slice (e := 9) (sz := 1) (by kernel_rfl) (by kernel_rfl) (by omega) hΦ (tells_s n)).map id (fun _ => rfl) (fun l => Nat.le_succ _) (fun _ _ => trivial)
theorem tells_exs2 (hΦ : ∀ b, b < cx.w.heap.size → cx.Φ b) : ∀ n, Tells enc Tryz.prog cx n 72 Ex.cells Ex.count (fun _ => True) ∧ Tells enc Tryz.prog cx n 70 (fun l : List Ex => [Ex.sl l]) exsCount (fun _ => True)
  | 0 => ⟨tells_zero, tells_zero⟩
  | n + 1 => by
    obtain ⟨h1, h2⟩ := tells_exs2 hΦ n
    refine ⟨(tells_struct (fl := [(68, 0, 1), (69, 1, 1), (9, 2, 1), (70, 3, 1)]) (by kernel_rfl) (by kernel_rfl)
      (tellsF_cons (tells_i 68 (by kernel_rfl) n) (tellsF_cons (tells_u n) (tellsF_cons (tells_s n) (tellsF_cons h2 tellsF_nil))))).map (fun (a0, a1, a2, a3, _) => Ex.mk a0 a1 a2 a3) (fun _ => Ex.cells_eq _) (fun ⟨a0, a1, a2, a3, _⟩ => by simp only [Ex.count]; omega) (fun _ _ => trivial), ?_⟩
    exact (tells_slice (e := 72) (sz := 4) (by kernel_rfl) (by kernel_rfl) (by omega) hΦ h1).map id (fun _ => rfl) (fun l => by rw [exs_sizes]; exact Nat.le_succ _) (fun _ _ => trivial)
theorem tells_sms2 (hΦ : ∀ b, b < cx.w.heap.size → cx.Φ b) : ∀ n, Tells enc Tryz.prog cx n 74 Sm.cells Sm.count (fun _ => True) ∧ Tells enc Tryz.prog cx n 50 (fun l : List Sm => [Sm.sl l]) smsCount (fun _ => True)
  | 0 => ⟨tells_zero, tells_zero⟩
  | n + 1 => by
    obtain ⟨h1, h2⟩ := tells_sms2 hΦ n
    obtain ⟨e1, e2⟩ := tells_exs2 (enc := enc) hΦ n
    refine ⟨(tells_struct (fl := [(67, 0, 1), (9, 1, 1), (49, 2, 1), (72, 3, 4), (72, 7, 4), (70, 11, 1), (69, 12, 1), (69, 13, 1), (50, 14, 1), (50, 15, 1)]) (by kernel_rfl) (by kernel_rfl)
      (tellsF_cons (tells_i 67 (by kernel_rfl) n) (tellsF_cons (tells_s n) (tellsF_cons (tells_strs hΦ n) (tellsF_cons e1 (tellsF_cons e1 (tellsF_cons e2 (tellsF_cons (tells_u n) (tellsF_cons (tells_u n) (tellsF_cons h2 (tellsF_cons h2 tellsF_nil))))))))))).map
      (fun (a0, a1, a2, a3, a4, a5, a6, a7, a8, a9, _) => Sm.mk a0 a1 a2 a3 a4 a5 a6 a7 a8 a9) (fun ⟨a0, a1, a2, a3, a4, a5, a6, a7, a8, a9, _⟩ => by rw [Sm.cells_eq, Ex.cells_eq, Ex.cells_eq]; rfl)
      (fun ⟨a0, a1, a2, a3, a4, a5, a6, a7, a8, a9, _⟩ => by have := sizes_len (size := fun s : ByteArray => s.size + 1) (fun _ => by omega) a2; simp only [Sm.count]; omega) (fun _ _ => trivial), ?_⟩
    exact (tells_slice (e := 74) (sz := 16) (by kernel_rfl) (by kernel_rfl) (by omega) hΦ h1).map id (fun _ => rfl) (fun l => by rw [sms_sizes]; exact Nat.le_succ _) (fun _ _ => trivial)
def vrSize (v : Vr) : Nat := v.name.size + 1
def rgSize (r : Rg) : Nat := r.name.size + 1
def fcSize (f : Fc) : Nat := f.name.size + sizes vrSize f.params + sizes vrSize f.vars + sizes (fun s => s.size + 1) f.rets + smsCount f.body + 1
def pgSize (p : Pg) : Nat := sizes rgSize p.regions + sizes fcSize p.funcs
theorem tells_vr : ∀ n, Tells enc Tryz.prog cx n 39 Vr.cells vrSize (fun _ => True)
  | 0 => tells_zero
  | n + 1 => (tells_struct (fl := [(9, 0, 1), (37, 1, 1), (3, 2, 1), (4, 3, 1)]) (by kernel_rfl) (by kernel_rfl)
      (tellsF_cons (tells_s n) (tellsF_cons (tells_i 37 (by kernel_rfl) n) (tellsF_cons (tells_i 3 (by kernel_rfl) n) (tellsF_cons (tells_b n) tellsF_nil))))).map (fun (a0, a1, a2, a3, _) => ⟨a0, a1, a2, a3⟩) (fun _ => rfl) (fun ⟨a0, a1, a2, a3, _⟩ => by simp only [vrSize]; omega) (fun _ _ => trivial)
theorem tells_rg : ∀ n, Tells enc Tryz.prog cx n 47 Rg.cells rgSize (fun _ => True)
  | 0 => tells_zero
  | n + 1 => (tells_struct (fl := [(9, 0, 1), (3, 1, 1), (3, 2, 1), (4, 3, 1)]) (by kernel_rfl) (by kernel_rfl)
      (tellsF_cons (tells_s n) (tellsF_cons (tells_i 3 (by kernel_rfl) n) (tellsF_cons (tells_i 3 (by kernel_rfl) n) (tellsF_cons (tells_b n) tellsF_nil))))).map (fun (a0, a1, a2, a3, _) => ⟨a0, a1, a2, a3⟩) (fun _ => rfl) (fun ⟨a0, a1, a2, a3, _⟩ => by simp only [rgSize]; omega) (fun _ _ => trivial)
theorem tells_vrs (hΦ : ∀ b, b < cx.w.heap.size → cx.Φ b) : ∀ n, Tells enc Tryz.prog cx n 35 (fun l : List Vr => [Vr.sl l]) (sizes vrSize) (fun _ => True)
  | 0 => tells_zero
  | n + 1 => (tells_slice (e := 39) (sz := 4) (by kernel_rfl) (by kernel_rfl) (by omega) hΦ (tells_vr n)).map id (fun _ => rfl) (fun l => Nat.le_succ _) (fun _ _ => trivial)
theorem tells_rgs (hΦ : ∀ b, b < cx.w.heap.size → cx.Φ b) : ∀ n, Tells enc Tryz.prog cx n 22 (fun l : List Rg => [Rg.sl l]) (sizes rgSize) (fun _ => True)
  | 0 => tells_zero
  | n + 1 => (tells_slice (e := 47) (sz := 4) (by kernel_rfl) (by kernel_rfl) (by omega) hΦ (tells_rg n)).map id (fun _ => rfl) (fun l => Nat.le_succ _) (fun _ _ => trivial)
theorem tells_fc (hΦ : ∀ b, b < cx.w.heap.size → cx.Φ b) : ∀ n, Tells enc Tryz.prog cx n 52 Fc.cells fcSize (fun _ => True)
  | 0 => tells_zero
  | n + 1 => (tells_struct (fl := [(9, 0, 1), (35, 1, 1), (35, 2, 1), (49, 3, 1), (50, 4, 1)]) (by kernel_rfl) (by kernel_rfl)
      (tellsF_cons (tells_s n) (tellsF_cons (tells_vrs hΦ n) (tellsF_cons (tells_vrs hΦ n) (tellsF_cons (tells_strs hΦ n) (tellsF_cons (tells_sms2 hΦ n).2 tellsF_nil)))))).map (fun (a0, a1, a2, a3, a4, _) => ⟨a0, a1, a2, a3, a4⟩) (fun _ => rfl) (fun ⟨a0, a1, a2, a3, a4, _⟩ => by simp only [fcSize]; omega) (fun _ _ => trivial)
theorem tells_fcs (hΦ : ∀ b, b < cx.w.heap.size → cx.Φ b) : ∀ n, Tells enc Tryz.prog cx n 23 (fun l : List Fc => [Fc.sl l]) (sizes fcSize) (fun _ => True)
  | 0 => tells_zero
  | n + 1 => (tells_slice (e := 52) (sz := 5) (by kernel_rfl) (by kernel_rfl) (by omega) hΦ (tells_fc hΦ n)).map id (fun _ => rfl) (fun l => Nat.le_succ _) (fun _ _ => trivial)
theorem tells_pg (hΦ : ∀ b, b < cx.w.heap.size → cx.Φ b) : ∀ n, Tells enc Tryz.prog cx n 25 Pg.cells pgSize (fun _ => True)
  | 0 => tells_zero
  | n + 1 => (tells_struct (fl := [(22, 0, 1), (23, 1, 1)]) (by kernel_rfl) (by kernel_rfl)
      (tellsF_cons (tells_rgs hΦ n) (tellsF_cons (tells_fcs hΦ n) tellsF_nil))).map (fun (a0, a1, _) => ⟨a0, a1⟩) (fun _ => rfl) (fun ⟨a0, a1, _⟩ => by simp only [pgSize]; omega) (fun _ _ => trivial)
theorem pg_okF {p : Pg} (h : pgSize p ≤ 1048576) : p.OkF := by
  have hr : p.regions.length ≤ pgSize p := by have := sizes_len (size := rgSize) (fun _ => by simp [rgSize]) p.regions; unfold pgSize; omega
  have hf : p.funcs.length ≤ pgSize p := by have := sizes_len (size := fcSize) (fun _ => by simp [fcSize]) p.funcs; unfold pgSize; omega
  have hF : ∀ f ∈ p.funcs, fcSize f ≤ 1048576 := fun f hf => by have := sizes_mem (size := fcSize) hf; unfold pgSize at h; omega
  have hb : ∀ f ∈ p.funcs, smsCount f.body ≤ 2^36 := fun f hf => by have := hF f hf; unfold fcSize at this; omega
  have hv : ∀ f ∈ p.funcs, f.vars.length ≤ 2^36 := fun f hf => by
    have := hF f hf; have h2 := sizes_len (size := vrSize) (fun _ => by simp [vrSize]) f.vars; unfold fcSize at this; omega
  refine ⟨⟨⟨by omega, by omega, fun f hf => ?_, fun f hf => ?_, fun f hf => ?_, fun f hf => ?_⟩, ⟨fun r hr => ?_, fun f hf => ⟨?_, fun v hv => ?_, fun s hs => ?_⟩⟩, fun f hf => ?_⟩, hb, hv, by omega, by omega⟩
  · have := hF f hf; unfold fcSize at this; omega
  · have := hF f hf; have h2 := sizes_len (size := vrSize) (fun _ => by simp [vrSize]) f.params; unfold fcSize at this; omega
  · have := hF f hf; have h2 := sizes_len (size := vrSize) (fun _ => by simp [vrSize]) f.vars; unfold fcSize at this; omega
  · have := hF f hf; have h2 := sizes_len (size := fun s : ByteArray => s.size + 1) (fun _ => by omega) f.rets; unfold fcSize at this; omega
  · have h2 := sizes_mem (size := rgSize) hr; have h3 : rgSize r = r.name.size + 1 := rfl; unfold pgSize at h; omega
  · have := hF f hf; unfold fcSize at this; omega
  · have := hF f hf
    unfold fcSize at this
    rcases List.mem_append.1 hv with hv | hv
    · have h2 := sizes_mem (size := vrSize) hv; simp only [vrSize] at h2 this; omega
    · have h2 := sizes_mem (size := vrSize) hv; simp only [vrSize] at h2 this; omega
  · have := hF f hf; unfold fcSize at this; have h2 : s.size + 1 ≤ sizes (fun s : ByteArray => s.size + 1) f.rets := sizes_mem (size := fun s : ByteArray => s.size + 1) hs; omega
  · have := hF f hf; unfold fcSize at this; omega
def plSize (x : Pl) : Nat := x.name.size + 1
def lySize (l : Ly) : Nat := sizes plSize l.places
theorem tells_pl : ∀ n, Tells enc Tryz.prog cx n 41 Pl.cells plSize (fun _ => True)
  | 0 => tells_zero
  | n + 1 => (tells_struct (fl := [(9, 0, 1), (3, 1, 1), (3, 2, 1)]) (by kernel_rfl) (by kernel_rfl)
      (tellsF_cons (tells_s n) (tellsF_cons (tells_i 3 (by kernel_rfl) n) (tellsF_cons (tells_i 3 (by kernel_rfl) n) tellsF_nil)))).map (fun (a0, a1, a2, _) => ⟨a0, a1, a2⟩) (fun _ => rfl) (fun ⟨a0, a1, a2, _⟩ => by simp only [plSize]; omega) (fun _ _ => trivial)
theorem tells_pls (hΦ : ∀ b, b < cx.w.heap.size → cx.Φ b) : ∀ n, Tells enc Tryz.prog cx n 28 (fun l : List Pl => [Pl.sl l]) (sizes plSize) (fun _ => True)
  | 0 => tells_zero
  | n + 1 => (tells_slice (e := 41) (sz := 3) (by kernel_rfl) (by kernel_rfl) (by omega) hΦ (tells_pl n)).map id (fun _ => rfl) (fun l => Nat.le_succ _) (fun _ _ => trivial)
theorem tells_ly (hΦ : ∀ b, b < cx.w.heap.size → cx.Φ b) : ∀ n, Tells enc Tryz.prog cx n 30 Ly.cells lySize (fun _ => True)
  | 0 => tells_zero
  | n + 1 => (tells_struct (fl := [(28, 0, 1), (3, 1, 1)]) (by kernel_rfl) (by kernel_rfl)
      (tellsF_cons (tells_pls hΦ n) (tellsF_cons (tells_i 3 (by kernel_rfl) n) tellsF_nil))).map (fun (a0, a1, _) => ⟨a0, a1⟩) (fun _ => rfl) (fun ⟨a0, a1, _⟩ => by simp only [lySize]; omega) (fun _ _ => trivial)
theorem ly_ok {l : Ly} (h : lySize l ≤ 1048576) : l.places.length ≤ 2^36 := by
  have := sizes_len (size := plSize) (fun _ => by simp [plSize]) l.places
  unfold lySize at h; omega
end
theorem arg_pg {H : Type} {enc : TypeId × Value → H} {W : World} {base : Nat} : ArgOk enc Tryz.prog W base 25 (fun a => .agg (Pg.cells a)) pgSize (fun _ => True) := arg_struct Tryz.underlying25 (tells_pg fun _ h => h)
theorem arg_ly {H : Type} {enc : TypeId × Value → H} {W : World} {base : Nat} : ArgOk enc Tryz.prog W base 30 (fun a => .agg (Ly.cells a)) lySize (fun _ => True) := arg_struct Tryz.underlying30 (tells_ly fun _ h => h)
theorem arg_str {H : Type} {enc : TypeId × Value → H} {W : World} {base : Nat} : ArgOk enc Tryz.prog W base 9 (fun s : ByteArray => St s) (fun s => s.size + 1) (fun _ => True) := arg_one (one_string (by kernel_rfl)) tells_s
end Go.Proofs.YtfoghfmmcogheaaGreat.Lift
