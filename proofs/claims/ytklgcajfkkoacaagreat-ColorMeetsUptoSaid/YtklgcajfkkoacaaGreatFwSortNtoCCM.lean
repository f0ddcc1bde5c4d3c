/- The library's slices.SortFunc of no row. -/
import Derived.Test.YtklgcajfkkoacaaGreatFwSort
import Derived.Shelf.SlSortCmp.NoneTotal
import Derived.Test.YtklgcajfkkoacaaGreatCZ1toCCI
import Derived.Test.YtklgcajfkkoacaaGreatFS1
set_option linter.unusedVariables false
set_option linter.unusedSimpArgs false
set_option maxHeartbeats 4000000
set_option maxRecDepth 100000
namespace Go.Mu
open Go.RowKit (Below)
open Go.Sort Go.Proofs Go.Shelf
theorem acalls_sortFunc_none {P : Program} {ρ : Ren} {H : List Blk} {fv : AV} (L : SlLaysF0.n6 P ρ) : ACalls P (ρ.f 6) [.v (.slice none 0 0), fv] H (fun e H' => e = .ret (.tup []) ∧ H' = H) := by
  intro B w0 cx vals hR hH hA
  obtain ⟨v1, vs1, rfl, r1, hA1⟩ := hA.cons_inv
  obtain ⟨v2, vs2, rfl, r2, hA2⟩ := hA1.cons_inv
  obtain rfl := hA2.nil_inv
  obtain rfl := r1.v_inv
  refine (AnyF.slices_SortFunc_none L none 0 v2 cx.w).mono ?_
  rintro e w' ⟨rfl, rfl⟩
  exact ⟨cx, .tup [], rfl, hR, Le.refl _, tup_nil_undef _ _, rfl, hH⟩
end Go.Mu
namespace Go.Proofs
open Go.Mu
def encPr (p : Pr) : List Value := [.int .i64 p.1, .int .i64 p.2]
theorem plain_prs (l : List Pr) : plainE encPr l = l.map prC := by
  unfold plainE
  refine List.map_congr_left fun x _ => ?_
  rfl
def cmpPr (x y : Pr) : Int := if Lib.compareInt x.1 y.1 = 0 then Lib.compareInt x.2 y.2 else Lib.compareInt x.1 y.1
theorem cmpI_cases (a b : Int) : (a < b ∧ Lib.compareInt a b = -1) ∨ (a = b ∧ Lib.compareInt a b = 0) ∨ (b < a ∧ Lib.compareInt a b = 1) := by
  unfold Lib.compareInt
  rcases Int.lt_trichotomy a b with h | h | h
  · exact .inl ⟨h, by simp [h]⟩
  · subst h; exact .inr (.inl ⟨rfl, by simp⟩)
  · exact .inr (.inr ⟨h, by rw [if_neg (by omega), if_pos h]⟩)
theorem cmpPr_lt (x y : Pr) : cmpPr x y < 0 ↔ pLt x y := by
  unfold cmpPr pLt
  rcases cmpI_cases x.1 y.1 with ⟨h, e⟩ | ⟨h, e⟩ | ⟨h, e⟩ <;> rcases cmpI_cases x.2 y.2 with ⟨h', e'⟩ | ⟨h', e'⟩ | ⟨h', e'⟩ <;> simp [e, e'] <;> omega
theorem swoPr : Sort.SWO (ltOf cmpPr) := by
  have e : ∀ x y : Pr, ltOf cmpPr x y = decide (pLt x y) := by
    intro x y
    unfold ltOf
    exact decide_eq_decide.2 (cmpPr_lt x y)
  exact ⟨fun x => by rw [e]; simp [pLt], fun x y z h1 h2 => by rw [e] at h1 h2 ⊢; simp only [decide_eq_true_eq] at h1 h2 ⊢; exact pLt_trans h1 h2, fun x y z h1 h2 => by
    rw [e] at h1 h2 ⊢
    simp only [decide_eq_false_iff_not] at h1 h2 ⊢
    intro h3
    rcases pLt_tri x y with a | a | a
    · exact h1 a
    · subst a; exact h2 h3
    · exact h2 (pLt_trans a h3)⟩
instance : Inhabited Pr := ⟨(0, 0)⟩
theorem scomp_ok (b1 b2 : Nat) (x1 x2 y1 y2 : Int) (w : World) (hx1 : w.cell? ⟨b1, 0, none⟩ = some (.int .i64 x1)) (hx2 : w.cell? ⟨b1, 1, none⟩ = some (.int .i64 x2)) (hy1 : w.cell? ⟨b2, 0, none⟩ = some (.int .i64 y1)) (hy2 : w.cell? ⟨b2, 1, none⟩ = some (.int .i64 y2)) :
    Calls Tryz.prog 53 #[.slice (some ⟨b1, 0, none⟩) 2 2, .slice (some ⟨b2, 0, none⟩) 2 2] w fun e w' => e = .returned (.int .i64 (cmpPr (x1, x2) (y1, y2))) ∧ w' = w := by
  have hcon := fun a b W' => AnyG.cmp_Compare_int Tryz.cmpI a b W'
  change ∀ a b W', Calls Tryz.prog 92 _ _ _ at hcon
  have hC : cmpPr (x1, x2) (y1, y2) = if Lib.compareInt x1 y1 = 0 then Lib.compareInt x2 y2 else Lib.compareInt x1 y1 := rfl
  generalize cmpPr (x1, x2) (y1, y2) = R at hC
  have h1 := hcon x1 y1
  have h2 := hcon x2 y2
  clear hcon
  generalize Lib.compareInt x1 y1 = c1 at hC h1
  generalize Lib.compareInt x2 y2 = c2 at hC h2
  go_enter Tryz.func53, Tryz.ntmps53
  go_wp2
  go_loopg [11] 2 (fun g s11 wr => ∃ k : Nat, k ≤ 2 ∧ 2 - k ≤ g ∧ s11 = .int .i64 k ∧ wr = w ∧ (0 < k → c1 = 0) ∧ (1 < k → c2 = 0))
  case atStart => exact ⟨0, by omega, by omega, rfl, rfl, by omega, by omega⟩
  case round =>
    obtain ⟨k, hk, hg, rfl, rfl, e1, e2⟩ := hrel
    obtain rfl | rfl | rfl : k = 0 ∨ k = 1 ∨ k = 2 := by omega
    · clear e1 e2
      by_cases hc : c1 = 0
      · go_wp2_with (go_at_call 92; refine (h1 _).mono ?_; rintro e w' ⟨rfl, rfl⟩)
        go_roundg 1
        case measure => omega
        case rel => exact ⟨1, by omega, by omega, rfl, rfl, fun _ => hc, by omega⟩
      · have hR : R = c1 := by rw [hC, if_neg hc]
        clear hC
        subst hR
        go_wp2_with (go_at_call 92; refine (h1 _).mono ?_; rintro e w' ⟨rfl, rfl⟩)
        go_ret
        exact ⟨rfl, rfl⟩
    · have e1 := e1 (by omega)
      subst e1
      clear e2
      by_cases hc : c2 = 0
      · go_wp2_with (go_at_call 92; refine (h2 _).mono ?_; rintro e w' ⟨rfl, rfl⟩)
        go_roundg 0
        case measure => omega
        case rel => exact ⟨2, by omega, by omega, rfl, rfl, by simp, fun _ => hc⟩
      · have hR : R = c2 := by rw [hC, if_pos rfl]
        clear hC
        subst hR
        go_wp2_with (go_at_call 92; refine (h2 _).mono ?_; rintro e w' ⟨rfl, rfl⟩)
        go_ret
        exact ⟨rfl, rfl⟩
    · have e1 := e1 (by omega)
      have e2 := e2 (by omega)
      subst e1
      subst e2
      rw [if_pos rfl] at hC
      subst hC
      clear hx1 hx2 hy1 hy2
      go_wp2
      go_ret
      exact ⟨rfl, rfl⟩
theorem meetcmp_ok (x y : Pr) (W : World) : Calls Tryz.prog 52 #[.agg (encPr x).toArray, .agg (encPr y).toArray] W fun e w' => e = .returned (.int .i64 (cmpPr x y)) ∧ ∃ q os', w' = Sort.grow (W.drewN q) os' := by
  obtain ⟨x1, x2⟩ := x
  obtain ⟨y1, y2⟩ := y
  have hcon : ∀ W', W' = ((W.alloc (.cells #[.int .i64 x1, .int .i64 x2] 58 (0, 0))).alloc (.cells #[.int .i64 y1, .int .i64 y2] 58 (0, 0))).drew → Calls Tryz.prog 53 #[.slice (some ⟨W.heap.size, 0, none⟩) 2 2, .slice (some ⟨W.heap.size + 1, 0, none⟩) 2 2] W' fun e w' => e = .returned (.int .i64 (cmpPr (x1, x2) (y1, y2))) ∧ w' = W' := by
    rintro W' rfl
    have b1 : (((W.alloc (.cells #[.int .i64 x1, .int .i64 x2] 58 (0, 0))).alloc (.cells #[.int .i64 y1, .int .i64 y2] 58 (0, 0))).drew).heap[W.heap.size]? = some (.cells #[.int .i64 x1, .int .i64 x2] 58 (0, 0)) := by
      have h1 := heap_alloc_new W (.cells #[.int .i64 x1, .int .i64 x2] 58 (0, 0))
      exact (heap_alloc_old (W.alloc (.cells #[.int .i64 x1, .int .i64 x2] 58 (0, 0))) (.cells #[.int .i64 y1, .int .i64 y2] 58 (0, 0)) (show W.heap.size < _ by simp)).trans h1
    have b2 : (((W.alloc (.cells #[.int .i64 x1, .int .i64 x2] 58 (0, 0))).alloc (.cells #[.int .i64 y1, .int .i64 y2] 58 (0, 0))).drew).heap[W.heap.size + 1]? = some (.cells #[.int .i64 y1, .int .i64 y2] 58 (0, 0)) := by
      have h1 := heap_alloc_new (W.alloc (.cells #[.int .i64 x1, .int .i64 x2] 58 (0, 0))) (.cells #[.int .i64 y1, .int .i64 y2] 58 (0, 0))
      have hs : (W.alloc (.cells #[.int .i64 x1, .int .i64 x2] 58 (0, 0))).heap.size = W.heap.size + 1 := by simp
      rw [hs] at h1
      exact h1
    exact scomp_ok _ _ _ _ _ _ _ (by rw [cell_of_row _ _ _ _ _ _ b1]; rfl) (by rw [cell_of_row _ _ _ _ _ _ b1]; rfl) (by rw [cell_of_row _ _ _ _ _ _ b2]; rfl) (by rw [cell_of_row _ _ _ _ _ _ b2]; rfl)
  show Calls Tryz.prog 52 #[.agg #[.int .i64 x1, .int .i64 x2], .agg #[.int .i64 y1, .int .i64 y2]] W _
  generalize cmpPr (x1, x2) (y1, y2) = R at hcon ⊢
  have mixed : Tryz.prog.follows Departure.mixedOrders = true := by kernel_rfl
  go_enter Tryz.func52, Tryz.ntmps52
  go_wp2_with fail
  go_region_with (go_at_call 53; refine (hcon _ ?_).mono ?_; rfl; rintro e w' ⟨rfl, rfl⟩)
  go_wp2
  go_ret
  exact ⟨rfl, 1, _, by rw [Sort.alloc_eq_grow, Sort.alloc_eq_grow, Sort.grow_grow]; rfl⟩
theorem prsort_ok (l : List Pr) (hl : l.length ≤ 2^40) (k : Nat) (H : List Blk) (hk : H[k]? = some (.row 58 2 (l.map prC))) :
    ACalls Tryz.prog 94 [.hs k 0 l.length l.length, .fn (.func 52) [] []] H (fun e H' => e = .ret (.tup []) ∧ ∃ ys : List Pr, ys.Perm l ∧ ys.Pairwise (fun x y => ¬ pLt y x) ∧ H' = H.set k (.row 58 2 (ys.map prC))) := by
  have h := acalls_sortFunc (enc := encPr) (sz := 2) (H := H) (k := k) (g := 52) (t := 58) Tryz.sortPr (by intro w; exact Tryz.isAgg58 w) (by intro w; exact Tryz.sizeOf58 w) (fun _ => rfl) (fun x v hv => by
      simp only [encPr, List.mem_cons, List.mem_nil_iff, or_false] at hv; rcases hv with rfl | rfl <;> rfl) cmpPr swoPr
    (enters_of Tryz.func52 (by kernel_rfl) rfl) (fun x y W => meetcmp_ok x y W) l (by omega) (by rw [plain_prs]; exact hk)
  refine ACalls.mono h ?_
  rintro e H' ⟨rfl, ys, h1, h2, rfl⟩
  exact ⟨rfl, ys, h1, h2.imp (fun h hh => h ((cmpPr_lt _ _).2 hh)), by rw [plain_prs]⟩
theorem prsorted_ok (t : List Pr) (km b : Nat) (ht : t.length ≤ 2^40) (H : List Blk) (hb : H[b]? = some (.box 120 [.hm km])) (hk : H[km]? = some (.map (standP t))) :
    ACalls Tryz.prog 54 [.fn (.func 95) [] [.bp b 0], .fn (.func 52) [] []] H (fun e H' => ∃ ns, ns.Perm t ∧ ns.Pairwise (fun x y => ¬ pLt y x) ∧ e = .ret (prS H.length ns) ∧ H' = H ++ [prB ns]) := by
  refine acalls_of_vc (hn := fun _ => false) (od := fun _ => none) Tryz.func54 rfl (by kernel_rfl) ?_
  simp -dsimp
  refine acallsW_of (pcollect_ok t km b ht H hb hk) ?_
  rintro e _ ⟨ns, hp, rfl, rfl⟩
  have hnl : ns.length = t.length := hp.length_eq
  by_cases hne : ns = []
  · subst hne
    have c : ∀ H fv, ACalls Tryz.prog 94 [nilS, fv] H _ := fun H fv => acalls_sortFunc_none (fv := fv) (H := H) Tryz.sortPr
    simp -dsimp
    refine acallsW_det (c _ _) ?_
    simp -dsimp
    exact ⟨[], hp, List.Pairwise.nil, rfl, rfl⟩
  · have hb1 : prB ns = .row 58 2 (ns.map prC) := by simp [ownB, hne]
    have hs1 : prS H.length ns = .hs H.length 0 ns.length ns.length := by simp [ownS, hne]
    have c := prsort_ok ns (by omega) H.length (H ++ [prB ns]) (by rw [hb1]; simp)
    rw [hs1]
    simp -dsimp
    refine acallsW_of c ?_
    rintro e _ ⟨rfl, ys, h1, h2, rfl⟩
    have hyl := h1.length_eq
    have hye : ys ≠ [] := fun e => by subst e; exact hne (List.eq_nil_of_length_eq_zero hyl.symm)
    simp -dsimp
    exact ⟨ys, h1.trans hp, h2, by simp [ownS, hye, hyl], by simp [ownB, hye]⟩
abbrev prsl (l : List Pr) : AV := .vs 2 (l.map prC)
theorem own_prS (H : List Blk) (l : List Pr) : ∃ h, prS H.length l = hrow h l.length ∧ OwnP H (H ++ [prB l]) h l := by
  by_cases he : l = []
  · subst he; exact ⟨none, rfl, .nil0 _ _ _ _⟩
  · exact ⟨some H.length, by simp [ownS, he, hrow], ⟨_, rfl⟩, fun k hk => by (cases hk; simp [ownB, he]), fun h => by (cases h), fun k hk => by cases hk; exact Nat.le_refl _⟩
theorem meet_sorted {l : Linear} {ps ys : List Pr} (hps : PSet ps (meetL l)) (hp : ys.Perm ps) (hs : ys.Pairwise (fun x y => ¬ pLt y x)) : ys = meetL l := by
  refine sortedP_ext ?_ (riseP_rise _) (fun x => by rw [hp.mem_iff]; exact hps.mem x)
  have hnd : ys.Nodup := hp.nodup_iff.2 hps.nd
  refine (hs.and hnd).imp fun h => ?_
  rcases pLt_tri _ _ with h1 | h1 | h1
  · exact h1
  · exact absurd h1 h.2
  · exact absurd h1 h.1
noncomputable def meetE (l : Linear) : AE := if l.ok = true then .ret (.tup [prsl (meetL l), I 0]) else .ret (.tup [prsl [], I 2])
theorem cMeet_ok (l : Linear) (hs : l.Sm) (H : List Blk) : ACalls Tryz.prog 20 [.agg l.cells] H (fun e H' => e = meetE l ∧ H' = H) := by
  refine acalls_under fun hu _ => acalls_weakE (acalls_tidy (acalls_of_vc (hn := fun _ => false) (od := fun _ => none) Tryz.func20 rfl (by kernel_rfl) ?_))
  obtain ⟨E, hE⟩ : ∃ E, E = meetE l := ⟨_, rfl⟩
  rw [← hE]
  unfold meetE at hE
  cases hok : l.ok
  · have cl := fun H => live_no l hs hok H
    simp only [Linear.cells] at cl
    rw [hok, if_neg (by decide)] at hE
    simp -dsimp
    refine acallsW_det (cl _) ?_
    simp -dsimp
    exact tidy_same rfl ⟨_, .tupL (.cons (.nil 2) (.cons (.refl _) .nil)), by rw [hE]; rfl, rfl⟩
  rw [hok, if_pos rfl] at hE
  have ho := ((ok_iff l).1 hok).1
  have cl := fun H => live_ok l hs hok H
  have cm := fun H => meet_ok l hs hok H
  have ck := fun km H => pmkeys_ok km H
  simp only [Linear.cells] at cl cm
  simp -dsimp
  refine acallsW_det (cl _) ?_
  simp -dsimp
  refine acallsW_of (cm _) ?_
  rintro e _ ⟨ps, L, rfl, rfl, hps⟩
  have hpl := pset_len ho hps
  obtain ⟨H3, hH3⟩ : ∃ H3, H3 = H ++ [.box 25 [I l.vars, Int.sl l.params, Int.sl l.rets, I l.frame, Line.sl l.code]] := ⟨_, rfl⟩
  rw [← hH3]
  have hl3 : H3.length = H.length + 1 := by rw [hH3]; simp
  have mp := mm_map l H3 ps L
  obtain ⟨M, hM⟩ : ∃ M, M = Mm l H3 ps L := ⟨_, rfl⟩
  have hMx : ∃ X, M = H ++ X := ⟨_, by rw [hM, hH3]; simp [Mm]; rfl⟩
  rw [← hM] at mp ⊢
  simp -dsimp
  refine acallsW_of (ck _ _) ?_
  rintro e _ ⟨rfl, rfl⟩
  simp -dsimp
  refine acallsW_of (prsorted_ok ps (H3.length + 1) M.length (by omega) _ (by simp) (get_app_old mp _)) ?_
  rintro e _ ⟨ys, hp, hsrt, rfl, rfl⟩
  have hys := meet_sorted hps hp hsrt
  subst hys
  obtain ⟨h, e1, ow⟩ := own_prS (M ++ [.box 120 [.hm (H3.length + 1)]]) (meetL l)
  obtain ⟨X, rfl⟩ := hMx
  rw [List.append_assoc] at ow
  have ow := ow.less
  simp -dsimp
  have e1 : prS (H.length + (X.length + 1)) (meetL l) = hrow h (meetL l).length := by
    rw [← e1]
    simp only [List.length_append, List.length_cons, List.length_nil, Nat.zero_add, Nat.add_assoc]
  rw [e1]
  refine tidy_rowAV (h := h) (es := (meetL l).map prC) hu (by simpa using ow) (prs_frzB _) (by simp) ⟨by rw [hE], rfl⟩
end Go.Proofs
namespace Go.Proofs
open Go.Mu
theorem colorMeets_law (l : Linear) (hs : l.Sm) (H : List Blk) : ACalls Tryz.prog 4 [.agg l.cells] H (fun e H' => e = .ret (Bo true) ∧ H' = H) := by
  refine acalls_tidy (acalls_of_vc (hn := fun _ => false) (od := fun _ => none) Tryz.func4 rfl (by kernel_rfl) ?_)
  have mu := fun H => much17_ok l hs H
  have kn := known17_ok
  have c1 := fun H => cMeet_ok l hs H
  have c2 := fun H => colCounts_ok l hs H
  have c3 := fun H => rmay16_ok l (by have := hs.params; omega) (by have := hs.rets; omega) (by have := hs.code; omega) H
  have c4 := fun ho H => rmeet_ok l hs ho H
  have c5 := fun ho H => rcounts_ok l hs ho H
  unfold meetE at c1
  unfold cntE at c2
  obtain ⟨M, hM⟩ : ∃ M, M = much17 l := ⟨_, rfl⟩
  rw [← hM] at mu
  clear hM
  simp only [Linear.cells] at mu c1 c2 c3 c4 c5
  simp -dsimp
  refine acallsW_det (mu _) ?_
  cases M
  · cases hok : l.ok
    · rw [hok] at c3
      simp only [hok, Bool.false_eq_true, if_false] at c1 c2
      simp -dsimp
      refine acallsW_det (c1 _) ?_
      simp -dsimp
      refine acallsW_det (c2 _) ?_
      simp -dsimp
      refine acallsW_det (c3 _) ?_
      simp -dsimp
      refine acallsW_det (num17_ok _ _) ?_
      simp -dsimp
      refine acallsW_det (num17_ok _ _) ?_
      simp -dsimp
      refine acallsW_det (kn _) ?_
      simp -dsimp
      exact tidy_same rfl ⟨rfl, rfl⟩
    · have ho := ((ok_iff l).1 hok).1
      have hvr := ho.vars
      rw [hok] at c3
      simp only [hok, if_true] at c1 c2
      have c4 := c4 ho
      have c5 := c5 ho
      have hmlen : (meetL l).length ≤ 2^40 := by
        have h1 := (pset_len ho (ps := meetL l) ⟨List.Pairwise.imp (fun {a b} h (e : a = b) => by subst e; exact pLt_irr h) (riseP_rise (meetRaw l)), fun p => Iff.rfl⟩)
        omega
      have hclen : (cntL l).length ≤ 2^40 := by
        have := rising_len (a := 0) (b := l.vars) (l := cntL l) (riseL_rise _) (fun x hx => cnt_in ho ((riseL_mem _ _).1 hx))
        omega
      have c6 := fun H => sameInts_ok (cntL l) (cntL l) H (by omega)
      simp only [decide_true] at c6
      obtain ⟨mt, hmt⟩ : ∃ mt, mt = meetL l := ⟨_, rfl⟩
      obtain ⟨cs, hcs⟩ : ∃ cs, cs = cntL l := ⟨_, rfl⟩
      rw [← hmt] at c1 c4 hmlen
      rw [← hcs] at c2 c5 c6 hclen
      clear hmt hcs
      simp -dsimp
      refine acallsW_det (c1 _) ?_
      simp -dsimp
      refine acallsW_det (c2 _) ?_
      simp -dsimp
      refine acallsW_det (c3 _) ?_
      simp -dsimp
      refine acallsW_det (c4 _) ?_
      simp -dsimp
      have w0 : (IntKind.i64.wrap 0 != 0) = false := by decide
      refine acallsW_det (num17_ok _ _) ?_
      simp -dsimp
      refine acallsW_det (num17_ok _ _) ?_
      simp -dsimp [w0]
      obtain ⟨B, hB⟩ : ∃ B, B = H ++ [.box 25 [I l.vars, Int.sl l.params, Int.sl l.rets, I l.frame, Line.sl l.code]] := ⟨_, rfl⟩
      rw [← hB]
      have gB : B[H.length]? = some (.box 25 [I l.vars, Int.sl l.params, Int.sl l.rets, I l.frame, Line.sl l.code]) := by rw [hB]; simp
      have hB := Hid.mk hB
      refine loop_rule (hn := fun _ => false) (od := fun _ => none) (fun (i : Nat) f M => B = M ∧ f 1 = .bp H.length 0 ∧ f 3 = prsl mt ∧ f 5 = Int.sl cs ∧ f 7 = prsl mt ∧ f 8 = I i ∧ i ≤ mt.length) (fun i => mt.length - i) (by kernel_rfl) 0 (by refine ⟨rfl, by simp, by simp, by simp, by simp, by simp, by omega⟩) ?_
      rintro i f _ ⟨rfl, f1, f3, f5, f7, f8, hi⟩
      simp -dsimp [f1, f3, f5, f7, f8]
      refine condVW_introD (fun hlt => ?_) (fun hlt => ?_)
      · have hlt' : i < mt.length := by omega
        have hx := List.getElem?_eq_getElem hlt'
        obtain ⟨p, hpe⟩ : ∃ p, p = mt[i] := ⟨_, rfl⟩
        rw [← hpe] at hx
        clear hpe
        have g62 : (mt.map prC)[i]? = some (prC p) := by rw [List.getElem?_map, hx]; rfl
        obtain ⟨a, b⟩ := p
        have g62 : (mt.map prC)[i]? = some [I a, I b] := g62
        simp -dsimp [f1, f3, f5, f7, f8, g62]
        exact ⟨i + 1, by omega, wrapS (by omega), by omega⟩
      · simp -dsimp [f1, f3, f5, f7, f8, gB]
        refine acallsW_det (c5 _) ?_
        simp -dsimp [f1, f3, f5, f7, f8]
        refine acallsW_det (c6 _) ?_
        simp -dsimp
        refine acallsW_det (kn _) ?_
        rw [hB.out]
        simp -dsimp
        exact tidy_same rfl ⟨rfl, rfl⟩
  · simp -dsimp
    refine acallsW_det (kn _) ?_
    simp -dsimp
    exact tidy_same rfl ⟨rfl, rfl⟩
end Go.Proofs
