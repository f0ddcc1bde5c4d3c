/- A range over an iterator whose round takes memory for its variable. -/
import Derived.Test.YtfoghfmmcogheaaGreatFwQtoFwT
import Derived.Test.YtfoghfmmcogheaaGreatFwVtoFR3
import Derived.Test.YtfoghfmmcogheaaGreatFS1
set_option linter.unusedVariables false
set_option linter.unusedSimpArgs false
set_option maxHeartbeats 4000000
set_option maxRecDepth 100000
namespace Go.Mu
open Go.RowKit (Below)
theorem awp_range2 {P : Program} {n : Nat} {g : Operand} {ps : Array Tmp} {x y : Code} {Q : AQ} {f : Fr} {H : List Blk} {ds : List ADef} {it : FuncId} {cap : List AV} {w : Wit (n, Code.rangeFunc g ps x y, Q, f, H, ds)}
    (xs : List (List AV)) (inv : List Blk → Prop) (J : Nat → List Blk → Prop) (Jx : AX → List Blk → Prop)
    (hgo : (opOk n g && noDefC x && noDefC y && okFn P it) = true) (hg : ev f g = .fn (.func it) [] cap) (hps : ∀ e ∈ xs, e.length = ps.size)
    (hseq : ASeq P it cap xs (H.length + 2) (fun A => ∃ A0 b, A = A0 ++ b ∧ A0.length = H.length ∧ inv A0)) (h0 : J 0 H) (hJ : ∀ i A, J i A → A.length = H.length ∧ inv A) (hJx : ∀ e A, Jx e A → A.length = H.length)
    (round : ∀ i A B e, xs[i]? = some e → J i A → AWPW P n x (roundQ1 fun f1 M1 => ∃ C, M1 = A ++ (B ++ C) ∧ ∀ B', B'.length = B.length → AWPW P n y (roundQ2 (RoundEnd (J (i + 1)) Jx B')) f1 (A ++ (B' ++ C)) [] (wit _)) (updL f ps.toList e) (A ++ B) [] (wit _))
    (fin : ∀ A C, J xs.length A → QW Q .normal f (A ++ .dfr true :: C) (⟨0, [], some H.length⟩ :: ds) (wit _))
    (finx : ∀ ex A C, Jx ex A → ex ≠ .normal → (∀ z, ex ≠ .pan z) → QW Q ex f (A ++ .dfr true :: C) (⟨0, [], some H.length⟩ :: ds) (wit _)) : AWPW P n (.rangeFunc g ps x y) Q f H ds w := by
  simp only [Bool.and_eq_true] at hgo
  refine awp_rangeFunc hgo.1.1.1 hg hgo.2 ?_
  have base := hseq (H.length + 1) (fun i M => ∃ A, M = A ++ [.dfr true, .lp .ready none n f ps x y] ∧ J i A) (fun M => ∃ ex A, M = A ++ [.dfr true, .lp .done (jumpOf ex) n f ps x y] ∧ Jx ex A ∧ ex ≠ .normal ∧ ∀ z, ex ≠ .pan z) ?_ ?_
    (H ++ [.dfr true, .lp .ready none n f ps x y]) ⟨H, rfl, h0⟩
  · refine base.mono fun e M he => ?_
    obtain ⟨r, A', C, rfl, rfl, ⟨A, rfl, hA⟩ | ⟨ex, A, rfl, hA, hne, hnp⟩⟩ := he
    · have hl := (hJ _ _ hA).1
      refine ⟨r, rfl, .ready, .normal, ?_, by simp, ?_, ?_⟩
      · rw [← hl]; simp [jumpOf]
      · rw [← hl]; simp
      · have := fin A (.lp .exhausted none n f ps x y :: C) hA
        simp only
        rw [← hl] at this ⊢
        simpa [jumpOf, QW] using this
    · have hl := hJx _ _ hA
      refine ⟨r, rfl, .done, ex, ?_, by simp, ?_, ?_⟩
      · rw [← hl]; simp
      · rw [← hl]; simp
      · have := finx ex A (.lp .exhausted (jumpOf ex) n f ps x y :: C) hA hne hnp
        rw [← hl] at this ⊢
        cases ex with
        | normal => exact absurd rfl hne
        | pan z => exact absurd rfl (hnp z)
        | _ => simpa [QW] using this
  · rintro i M ⟨A, rfl, hA⟩
    have := hJ i A hA
    exact ⟨by simp [this.1], A, _, rfl, this.1, this.2⟩
  · rintro i M B e he ⟨A, rfl, hA⟩
    have hl := (hJ i A hA).1
    have hke : e.length = ps.size := hps e (List.mem_of_getElem? he)
    have hget : ∀ (A C : List Blk) (z u : Blk), A.length = H.length → (A ++ z :: u :: C)[H.length + 1]? = some u := by
      intro A C z u hh; rw [← hh]; simp
    have hset : ∀ (A C : List Blk) (z u u' : Blk), A.length = H.length → (A ++ z :: u :: C).set (H.length + 1) u' = A ++ z :: u' :: C := by
      intro A C z u u' hh; rw [← hh]; simp
    have hM : A ++ [.dfr true, .lp .ready none n f ps x y] ++ B = A ++ .dfr true :: .lp .ready none n f ps x y :: B := by simp
    rw [hM]
    refine ayield_of (hget _ _ _ _ hl) (by simp [hgo.1.1.2, hgo.1.2]) hke ?_
    refine AWP.mono (round i A (.dfr true :: .lp .ready none n f ps x y :: B) e he hA) fun ex f1 M1 ds1 h1 => ?_
    obtain ⟨rfl, rfl, C0, rfl, h2⟩ := h1
    have hC0 : ∀ u : Blk, A ++ (Blk.dfr true :: u :: B ++ C0) = A ++ Blk.dfr true :: u :: (B ++ C0) := fun u => by simp
    rw [hC0]
    refine ⟨rfl, rfl, hget _ _ _ _ hl, ?_⟩
    rw [hset _ _ _ _ _ hl, ← hC0]
    refine AWP.mono (h2 (.dfr true :: .lp .busy none n f ps x y :: B) (by simp)) fun ex f2 M2 ds2 h3 => ?_
    obtain ⟨rfl, h3⟩ := h3
    have hx0 : (∀ z, ex ≠ .pan z) ∧ RoundEnd (J (i + 1)) Jx (.dfr true :: .lp .busy none n f ps x y :: B) ex M2 := by
      cases ex with
      | pan z => exact h3.elim
      | _ => exact ⟨by simp, h3⟩
    obtain ⟨hnp, A', C, rfl, hx⟩ := hx0
    have hM2 : A' ++ ((.dfr true :: .lp .busy none n f ps x y :: B) ++ C) = A' ++ .dfr true :: .lp .busy none n f ps x y :: (B ++ C) := by simp
    rw [hM2]
    have hl' : A'.length = H.length := by
      cases ex with
      | normal => exact (hJ _ _ hx).1
      | _ => exact hJx _ _ hx
    refine ⟨rfl, hget _ _ _ _ hl', ?_⟩
    cases ex with
    | normal => exact ⟨A' ++ [.dfr true, .lp .ready none n f ps x y], C, by rw [hset _ _ _ _ _ hl']; simp, .inl ⟨rfl, A', rfl, hx⟩⟩
    | pan z => exact absurd rfl (hnp z)
    | ret => exact ⟨A' ++ [.dfr true, .lp .done (jumpOf .ret) n f ps x y], C, by rw [hset _ _ _ _ _ hl']; simp, .inr ⟨rfl, _, A', rfl, hx, by simp, by simp⟩⟩
    | exit id => exact ⟨A' ++ [.dfr true, .lp .done (jumpOf (.exit id)) n f ps x y], C, by rw [hset _ _ _ _ _ hl']; simp, .inr ⟨rfl, _, A', rfl, hx, by simp, by simp⟩⟩
    | goto l => exact ⟨A' ++ [.dfr true, .lp .done (jumpOf (.goto l)) n f ps x y], C, by rw [hset _ _ _ _ _ hl']; simp, .inr ⟨rfl, _, A', rfl, hx, by simp, by simp⟩⟩
mutual
theorem underF_mono {n m : Nat} (h : n ≤ m) : ∀ (a : AV), a.under n = true → a.under m = true
  | .v _, _ => rfl
  | .vs _ _, _ => rfl
  | .vx _ _, _ => rfl
  | .vp _, _ => rfl
  | .bp k _, hu => by simp only [AV.under, decide_eq_true_eq] at hu ⊢; omega
  | .rp k _ _ _, hu => by simp only [AV.under, decide_eq_true_eq] at hu ⊢; omega
  | .hs k _ _ _, hu => by simp only [AV.under, decide_eq_true_eq] at hu ⊢; omega
  | .hm k, hu => by simp only [AV.under, decide_eq_true_eq] at hu ⊢; omega
  | .hi k, hu => by simp only [AV.under, decide_eq_true_eq] at hu ⊢; omega
  | .yl k, hu => by simp only [AV.under, decide_eq_true_eq] at hu ⊢; omega
  | .fn _ a b, hu => by simp only [AV.under, Bool.and_eq_true] at hu ⊢; exact ⟨underLF_mono h a hu.1, underLF_mono h b hu.2⟩
  | .ifc _ x, hu => by simp only [AV.under] at hu ⊢; exact underF_mono h x hu
  | .agg a, hu => by simp only [AV.under] at hu ⊢; exact underLF_mono h a hu
  | .tup a, hu => by simp only [AV.under] at hu ⊢; exact underLF_mono h a hu
  | .junk, _ => rfl
theorem underLF_mono {n m : Nat} (h : n ≤ m) : ∀ (l : List AV), underL n l = true → underL m l = true
  | [], _ => rfl
  | a :: l, hu => by simp only [underL, Bool.and_eq_true] at hu ⊢; exact ⟨underF_mono h a hu.1, underLF_mono h l hu.2⟩
end
theorem blkF_mono {n m : Nat} (h : n ≤ m) (b : Blk) (hu : b.under n = true) : b.under m = true := by
  cases b with
  | box t cs => exact underLF_mono h cs hu
  | row t z rs =>
    simp only [Blk.under, List.all_eq_true] at hu ⊢
    exact fun r hr => underLF_mono h r (hu r hr)
  | map ms =>
    simp only [Blk.under, List.all_eq_true] at hu ⊢
    exact fun p hp => underF_mono h p.2 (hu p hp)
  | lp st pend n f ps assign body =>
    simp only [Blk.under, List.all_eq_true, List.mem_range] at hu ⊢
    exact fun t ht => underF_mono h _ (hu t ht)
  | it km q seen =>
    cases km with
    | none => rfl
    | some k => simp only [Blk.under, decide_eq_true_eq] at hu ⊢; omega
  | _ => rfl
theorem underH_appF {n m : Nat} {A B : List Blk} (h : n ≤ m) (ha : underH n A = true) (hb : ∀ b ∈ B, b.under m = true) : underH m (A ++ B) = true := by
  simp only [underH, List.all_eq_true, List.mem_append] at ha ⊢
  rintro b (hm | hm)
  · exact blkF_mono h b (ha b hm)
  · exact hb b hm
end Go.Mu
namespace Go.Proofs
open Go.Mu
theorem pvalues_ok (l : List Pl) (H : List Blk) : ACalls Tryz.prog 23 [Pl.sl l] H (fun e H' => e = .ret (.fn (.func 38) [] [.bp H.length 0]) ∧ H' = H ++ [.box 28 [Pl.sl l]]) := by
  refine acalls_of_vc (hn := fun _ => false) (od := fun _ => none) Tryz.func23 rfl (by kernel_rfl) ?_
  simp -dsimp
theorem pvalues_seq (l : List Pl) (hl : l.length ≤ 2^40) (kb base : Nat) (hkb : kb < base) : ASeq Tryz.prog 38 [.bp kb 0] (l.map fun x => [.agg x.cells]) base (fun A => A[kb]? = some (.box 28 [Pl.sl l])) := by
  intro k J Jx hJ hy A h0
  refine acalls_of_vc (hn := fun _ => false) (od := fun _ => none) Tryz.func38 rfl (by kernel_rfl) ?_
  have g0 : A[kb]? = some (.box 28 [Pl.sl l]) := (hJ 0 A h0).2
  simp -dsimp [g0]
  refine loop_rule (hn := fun _ => false) (od := fun _ => none) (fun (x : Nat × List Blk × List Blk) f H' => H' = x.2.1 ++ x.2.2 ∧ J x.1 x.2.1 ∧ f 0 = .yl k ∧ f 5 = Pl.sl l ∧ f 6 = I l.length ∧ f 7 = I x.1 ∧ x.1 ≤ l.length) (fun x => l.length - x.1) (by kernel_rfl) (0, A, []) (by simp; exact h0) ?_
  rintro ⟨i, A', B⟩ f _ ⟨rfl, hj, f0, f5, f6, f7, hi⟩
  simp only at hj f7 hi
  simp -dsimp [f0, f5, f6, f7]
  refine condVW_introD (fun hlt => ?_) (fun hlt => ?_)
  · have hlt' : i < l.length := by omega
    have hx := List.getElem?_eq_getElem hlt'
    obtain ⟨x, hxe⟩ : ∃ x, x = l[i] := ⟨_, rfl⟩
    rw [← hxe] at hx
    have w1 : IntKind.i64.wrap ((i : Int) + 1) = ((i + 1 : Nat) : Int) := wrapS (by omega)
    have hxj : (l.map fun x => [AV.agg x.cells])[i]? = some [.agg [St x.name, I x.at_, I x.size]] := by rw [List.getElem?_map, hx]; rfl
    simp -dsimp [f0, f5, f6, f7, hx]
    refine ayieldW_of (hy i A' _ _ hxj hj) ?_
    rintro e M ⟨A2, C, rfl, ⟨rfl, h1⟩ | ⟨rfl, h2⟩⟩
    · simp -dsimp [f0, f5, f6, f7]
      exact ⟨i + 1, by omega, A2, ⟨_, rfl⟩, h1, w1, by omega⟩
    · simp -dsimp [f0, f5, f6, f7]
      exact ⟨A2, ⟨_, rfl⟩, .inr h2⟩
  · obtain rfl : i = l.length := by omega
    simp -dsimp [f0, f5, f6, f7]
    exact ⟨A', ⟨_, rfl⟩, .inl (by simpa using hj)⟩
theorem pappend_ok (l : List Pl) (hl : l.length ≤ 2^36) (kb : Nat) (H : List Blk) (hb : H[kb]? = some (.box 28 [Pl.sl l])) :
    ACalls Tryz.prog 54 [nilS, .fn (.func 38) [] [.bp kb 0]] H (fun e H' => e = .ret (ownS H.length (l.map Pl.cells)) ∧ H' = H ++ [ownB 41 3 (l.map Pl.cells)]) := by
  refine acalls_tidy (acalls_spare 1 (acalls_of_vcM (hn := fun _ => false) (od := fun _ => none) Tryz.func54 rfl (by kernel_rfl) ?_))
  have hkb := lt_of_get hb
  obtain ⟨M, hM⟩ : ∃ M : List Pl → List Blk, M = fun l => H ++ [ownB 41 3 (l.map Pl.cells), .box 28 [ownS H.length (l.map Pl.cells)]] := ⟨_, rfl⟩
  have hMe : ∀ l, M l = H ++ [ownB 41 3 (l.map Pl.cells), .box 28 [ownS H.length (l.map Pl.cells)]] := fun l => by rw [hM]
  have mL : ∀ l, (M l).length = H.length + 2 := fun l => by rw [hMe]; simp
  have m0 : ∀ l L, (M l ++ L)[H.length]? = some (ownB 41 3 (l.map Pl.cells)) := fun l L => by rw [hMe]; simp
  have m1 : ∀ l L, (M l ++ L)[H.length + 1]? = some (.box 28 [ownS H.length (l.map Pl.cells)]) := fun l L => by rw [hMe]; simp
  have mb : ∀ x, (M x)[kb]? = some (.box 28 [Pl.sl l]) := fun x => by rw [hMe]; exact get_app_old hb _
  have s01 : ∀ l (l' : List Pl) L, ((M l ++ L).set H.length (ownB 41 3 (l'.map Pl.cells))).set (H.length + 1) (.box 28 [ownS H.length (l'.map Pl.cells)]) = M l' ++ L := fun l l' L => by rw [hMe, hMe]; simp
  have g01 : ∀ l (l' : List Pl) L, ((M l ++ L).set H.length (ownB 41 3 (l'.map Pl.cells)))[H.length + 1]? = some (.box 28 [ownS H.length (l.map Pl.cells)]) := fun l l' L => by rw [hMe]; simp
  have g0 : H ++ [Blk.pend] ++ [.box 28 [nilS]] = M [] := by rw [hMe]; simp
  have hlen : (H ++ [Blk.pend]).length = H.length + 1 := by simp
  clear hM
  obtain ⟨W, hW⟩ : ∃ W, W = H ++ [Blk.pend] := ⟨_, rfl⟩
  rw [show List.replicate 1 Blk.pend = [.pend] from rfl, ← hW]
  rw [← hW] at g0 hlen
  simp -dsimp
  rw [hlen, g0]
  refine awp_range2 (l.map fun x => [.agg x.cells]) (fun A => A[kb]? = some (.box 28 [Pl.sl l])) (fun i A => A = M (l.take i)) (fun ex A => False) (by kernel_rfl) rfl (by simp only [List.mem_map]; rintro e ⟨p, _, rfl⟩; rfl) ?_ (by simp) ?_ ?_ ?_ ?_ ?_
  · rw [mL]
    intro k J Jx hJ hy A h0
    refine pvalues_seq l (by omega) kb (H.length + 2 + 2) (by omega) k J Jx (fun i A h => ?_) hy A h0
    obtain ⟨h1, A0, b, rfl, h2, h3⟩ := hJ i A h
    exact ⟨h1, get_app_old h3 b⟩
  · rintro i A rfl
    exact ⟨by simp [mL], mb _⟩
  · rintro ex A h; exact h.elim
  · rintro i A B e he rfl
    rw [List.getElem?_map] at he
    obtain ⟨x, hx, rfl⟩ := Option.map_eq_some_iff.1 he
    have hi : i < l.length := (List.getElem?_eq_some_iff.1 hx).1
    have ht : l.take (i + 1) = l.take i ++ [x] := by rw [List.take_succ_eq_append_getElem hi]; congr 2; exact (List.getElem?_eq_some_iff.1 hx).2
    have hll : (l.take i).length = i := by simp; omega
    obtain ⟨a, ha⟩ : ∃ a, a = l.take i := ⟨_, rfl⟩
    obtain ⟨a', ha'⟩ : ∃ a', a' = l.take (i + 1) := ⟨_, rfl⟩
    rw [← ha] at ht hll ⊢
    rw [← ha'] at ht ⊢
    refine awpW_of_vc (hn := fun _ => false) (od := fun _ => none) (by kernel_rfl) ?_
    simp -dsimp
    intro B' hB'
    refine awpW_of_vc (hn := fun d => d == 11) (od := fun _ => none) (by kernel_rfl) ?_
    have gx : ∀ X : Blk, (M a ++ (B' ++ [X]))[(M a).length + B.length]? = some X := fun X => by rw [← hB']; simp
    simp -dsimp [m1, gx]
    refine appendVW_own (es := a.map Pl.cells) (by exact m0 _ _) (by simp; omega) (by simp; omega) ?_
    have hs : a.map Pl.cells ++ [[St x.name, I x.at_, I x.size]] = a'.map Pl.cells := by rw [ht]; simp
    rw [hs]
    simp -dsimp [g01, s01]
    exact roundEnd_of (M a') [.box 41 [St x.name, I x.at_, I x.size]] rfl rfl
  · rintro A C hA
    have hA' : A = M l := by rw [hA]; simp
    subst hA'
    have gD : (M l ++ Blk.dfr true :: C)[(M []).length]? = some (.dfr true) := by
      rw [show (M []).length = (M l).length by rw [mL, mL]]; simp
    have sD : (M l ++ Blk.dfr true :: C).set (M []).length (.dfr false) = (H ++ [ownB 41 3 (l.map Pl.cells)]) ++ (.box 28 [ownS H.length (l.map Pl.cells)] :: .dfr false :: C) := by
      rw [show (M []).length = (M l).length by rw [mL, mL], hMe]; simp
    simp -dsimp [m1, gD, sD]
    rw [show H ++ ownB 41 3 (l.map Pl.cells) :: Blk.box 28 [ownS H.length (l.map Pl.cells)] :: Blk.dfr false :: C = (H ++ [ownB 41 3 (l.map Pl.cells)]) ++ (Blk.box 28 [ownS H.length (l.map Pl.cells)] :: Blk.dfr false :: C) by simp]
    exact tidy_to (H2 := H ++ [ownB 41 3 (l.map Pl.cells)]) (by simp) (fun hu => underH_appF (by simp) hu (by intro b hb; simp only [List.mem_singleton] at hb; subst hb; exact under_ownB_plain (pls_frzB l))) (under_ownS _ _ _ (by simp)) ⟨rfl, rfl⟩
  · rintro ex A C h; exact h.elim
theorem pcollect_ok (l : List Pl) (hl : l.length ≤ 2^36) (kb : Nat) (H : List Blk) (hb : H[kb]? = some (.box 28 [Pl.sl l])) :
    ACalls Tryz.prog 36 [.fn (.func 38) [] [.bp kb 0]] H (fun e H' => e = .ret (ownS H.length (l.map Pl.cells)) ∧ H' = H ++ [ownB 41 3 (l.map Pl.cells)]) := by
  refine acalls_of_vc (hn := fun _ => false) (od := fun _ => none) Tryz.func36 rfl (by kernel_rfl) ?_
  simp -dsimp
  refine acallsW_of (pappend_ok l hl kb H hb) ?_
  rintro e H' ⟨rfl, rfl⟩
  simp -dsimp
def encP (x : Pl) : List Value := [.string x.name, .int .i64 x.at_, .int .i64 x.size]
theorem plain_pls (l : List Pl) : plainE encP l = l.map Pl.cells := by
  unfold plainE
  refine List.map_congr_left fun x _ => ?_
  rfl
instance : Inhabited Pl := ⟨⟨ByteArray.empty, 0, 0⟩⟩
theorem cmpP_ok (x y : Pl) (W : World) : Calls Tryz.prog 24 #[.agg (encP x).toArray, .agg (encP y).toArray] W fun e w' => e = .returned (.int .i64 (Lib.compareInt x.at_ y.at_)) ∧ ∃ q os', w' = Sort.grow (W.drewN q) os' := by
  have hcon := fun W' => AnyG.cmp_Compare_int Tryz.cmpI x.at_ y.at_ W'
  change ∀ W', Calls Tryz.prog 25 _ _ _ at hcon
  show Calls Tryz.prog 24 #[.agg #[.string x.name, .int .i64 x.at_, .int .i64 x.size], .agg #[.string y.name, .int .i64 y.at_, .int .i64 y.size]] W _
  generalize Lib.compareInt x.at_ y.at_ = r at hcon ⊢
  go_enter Tryz.func24, Tryz.ntmps24
  go_wp2_with (go_at_call 25; refine (hcon _).mono ?_; rintro e w' ⟨rfl, rfl⟩)
  go_ret
  exact ⟨rfl, 0, _, by rw [Sort.alloc_eq_grow, Sort.alloc_eq_grow, Sort.grow_grow]; rfl⟩
theorem swoP : Sort.SWO (ltOf fun x y : Pl => Lib.compareInt x.at_ y.at_) := by
  have e : ∀ x y : Pl, ltOf (fun x y : Pl => Lib.compareInt x.at_ y.at_) x y = decide (x.at_ < y.at_) := by
    intro x y
    unfold ltOf Lib.compareInt
    by_cases h1 : x.at_ < y.at_
    · simp [h1]
    · by_cases h2 : y.at_ < x.at_ <;> simp [h1, h2]
  exact ⟨fun x => by rw [e]; simp, fun x y z h1 h2 => by rw [e] at *; simp at *; omega, fun x y z h1 h2 => by rw [e] at *; simp at *; omega⟩
theorem lt_compare {a b : Int} : ¬ Lib.compareInt a b < 0 ↔ b ≤ a := by
  unfold Lib.compareInt
  by_cases h1 : a < b
  · simp [h1]
  · by_cases h2 : b < a <;> simp [h1, h2] <;> omega
theorem psort_ok (l : List Pl) (hl : l.length ≤ 2^36) (k : Nat) (H : List Blk) (hk : H[k]? = some (.row 41 3 (l.map Pl.cells))) :
    ACalls Tryz.prog 37 [.hs k 0 l.length l.length, .fn (.func 24) [] []] H (fun e H' => e = .ret (.tup []) ∧ ∃ ys : List Pl, ys.Perm l ∧ ys.Pairwise (fun x y => x.at_ ≤ y.at_) ∧ H' = H.set k (.row 41 3 (ys.map Pl.cells))) := by
  have h := acalls_sortFunc (enc := encP) (sz := 3) (H := H) (k := k) (g := 24) (t := 41) Tryz.sortPl (by intro w; exact Tryz.isAgg41 w) (by intro w; exact Tryz.sizeOf41 w) (fun _ => rfl) (fun x v hv => by
      simp only [encP, List.mem_cons, List.mem_nil_iff, or_false] at hv; rcases hv with rfl | rfl | rfl <;> rfl) (fun x y => Lib.compareInt x.at_ y.at_) swoP
    (enters_of Tryz.func24 (by kernel_rfl) rfl) (fun x y W => cmpP_ok x y W) l (by omega) (by rw [plain_pls]; exact hk)
  refine ACalls.mono h ?_
  rintro e H' ⟨rfl, ys, h1, h2, rfl⟩
  exact ⟨rfl, ys, h1, h2.imp (fun h => lt_compare.1 h), by rw [plain_pls]⟩
end Go.Proofs
