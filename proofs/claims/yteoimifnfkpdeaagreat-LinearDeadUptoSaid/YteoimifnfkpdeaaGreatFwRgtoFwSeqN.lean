/- A range over an iterator whose round takes memory for its variable. -/
import Derived.Test.YteoimifnfkpdeaaGreatFwQtoFwT
set_option linter.unusedVariables false
set_option linter.unusedSimpArgs false
namespace Go.Mu
open Go.RowKit (Below)
mutual
theorem underF_mono {n m : Nat} (h : n ≤ m) : ∀ (a : AV), a.under n = true → a.under m = true
  | .v _, _ => rfl
  | .vs _ _, _ => rfl
  | .vx _ _, _ => rfl
  | .vp _, _ => rfl
  | .bp k _, hu => by simp only [AV.under, decide_eq_true_eq] at hu ⊢; omega
  | .rp k _ _ _, hu => by simp only [AV.under, decide_eq_true_eq] at hu ⊢; omega
  | .hs k _ _ _, hu => by simp only [AV.under, decide_eq_true_eq] at hu ⊢; omega
  | .hm k, hu => by simp only [AV.under, decide_eq_true_eq] at hu ⊢; omega
  | .hg k, hu => by simp only [AV.under, decide_eq_true_eq] at hu ⊢; omega
  | .hi k, hu => by simp only [AV.under, decide_eq_true_eq] at hu ⊢; omega
  | .yl k, hu => by simp only [AV.under, decide_eq_true_eq] at hu ⊢; omega
  | .bs k _ _, hu => by simp only [AV.under, decide_eq_true_eq] at hu ⊢; omega
  | .fn _ a b, hu => by simp only [AV.under, Bool.and_eq_true] at hu ⊢; exact ⟨underLF_mono h a hu.1, underLF_mono h b hu.2⟩
  | .ifc _ x, hu => by simp only [AV.under] at hu ⊢; exact underF_mono h x hu
  | .agg a, hu => by simp only [AV.under] at hu ⊢; exact underLF_mono h a hu
  | .tup a, hu => by simp only [AV.under] at hu ⊢; exact underLF_mono h a hu
  | .junk, _ => rfl
theorem underLF_mono {n m : Nat} (h : n ≤ m) : ∀ (l : List AV), underL n l = true → underL m l = true
  | [], _ => rfl
  | a :: l, hu => by simp only [underL, Bool.and_eq_true] at hu ⊢; exact ⟨underF_mono h a hu.1, underLF_mono h l hu.2⟩
end
theorem blkF_mono {n m : Nat} (h : n ≤ m) (b : Blk) (hu : b.under n = true) : b.under m = true := by
  cases b with
  | box t cs => exact underLF_mono h cs hu
  | row t z rs =>
    simp only [Blk.under, List.all_eq_true] at hu ⊢
    exact fun r hr => underLF_mono h r (hu r hr)
  | map ms =>
    simp only [Blk.under, List.all_eq_true] at hu ⊢
    exact fun p hp => underF_mono h p.2 (hu p hp)
  | mapg ms =>
    simp only [Blk.under, List.all_eq_true] at hu ⊢
    exact fun p hp => underF_mono h p.2 (hu p hp)
  | lp st pend n f ps assign body =>
    simp only [Blk.under, List.all_eq_true, List.mem_range] at hu ⊢
    exact fun t ht => underF_mono h _ (hu t ht)
  | it km q seen =>
    cases km with
    | none => rfl
    | some k => simp only [Blk.under, decide_eq_true_eq] at hu ⊢; omega
  | _ => rfl
theorem underH_appF {n m : Nat} {A B : List Blk} (h : n ≤ m) (ha : underH n A = true) (hb : ∀ b ∈ B, b.under m = true) : underH m (A ++ B) = true := by
  simp only [underH, List.all_eq_true, List.mem_append] at ha ⊢
  rintro b (hm | hm)
  · exact blkF_mono h b (ha b hm)
  · exact hb b hm
end Go.Mu
namespace Go.Mu
open Go.RowKit (Below)
def ASeqN (P : Program) (it : FuncId) (cap : List AV) (xs : List (List AV)) (base : Nat) (inv : List Blk → Prop) : Prop :=
  ∀ (k : Nat) (J : List Nat → List Blk → Prop) (Jx : List Blk → Prop), (∀ s A, J s A → A.length = base ∧ inv A) →
    (∀ s i A B x, s.Nodup → (∀ j ∈ s, j < xs.length) → i ∉ s → xs[i]? = some x → J s A → AYield P k (A ++ B) x (fun e M => ∃ A' C, M = A' ++ B ++ C ∧ ((e = .ret (.v (.bool true)) ∧ J (s ++ [i]) A') ∨ (e = .ret (.v (.bool false)) ∧ Jx A')))) →
    ∀ A, J [] A → ACalls P it (.yl k :: cap) A (fun e M => ∃ r A' C, e = .ret r ∧ M = A' ++ C ∧ ((∃ s, s.Nodup ∧ (∀ j ∈ s, j < xs.length) ∧ (∀ j, j < xs.length → j ∈ s) ∧ J s A') ∨ Jx A'))
theorem awp_rangeN {P : Program} {n : Nat} {g : Operand} {ps : Array Tmp} {x y : Code} {Q : AQ} {f : Fr} {H : List Blk} {ds : List ADef} {it : FuncId} {cap : List AV} {w : Wit (n, Code.rangeFunc g ps x y, Q, f, H, ds)}
    (xs : List (List AV)) (inv : List Blk → Prop) (J : List Nat → List Blk → Prop) (Jx : AX → List Blk → Prop)
    (hgo : (opOk n g && noDefC x && noDefC y && okFn P it) = true) (hg : ev f g = .fn (.func it) [] cap) (hps : ∀ e ∈ xs, e.length = ps.size)
    (hseq : ASeqN P it cap xs (H.length + 2) (fun A => ∃ A0 b, A = A0 ++ b ∧ A0.length = H.length ∧ inv A0)) (h0 : J [] H) (hJ : ∀ s A, J s A → A.length = H.length ∧ inv A) (hJx : ∀ e A, Jx e A → A.length = H.length)
    (round : ∀ s i A B e, s.Nodup → (∀ j ∈ s, j < xs.length) → i ∉ s → xs[i]? = some e → J s A → AWPW P n x (roundQ1 fun f1 M1 => ∃ C, M1 = A ++ (B ++ C) ∧ ∀ B', B'.length = B.length → AWPW P n y (roundQ2 (RoundEnd (J (s ++ [i])) Jx B')) f1 (A ++ (B' ++ C)) [] (wit _)) (updL f ps.toList e) (A ++ B) [] (wit _))
    (fin : ∀ s A C, s.Nodup → (∀ j ∈ s, j < xs.length) → (∀ j, j < xs.length → j ∈ s) → J s A → QW Q .normal f (A ++ .dfr true :: C) (⟨0, [], some H.length⟩ :: ds) (wit _))
    (finx : ∀ ex A C, Jx ex A → ex ≠ .normal → (∀ z, ex ≠ .pan z) → QW Q ex f (A ++ .dfr true :: C) (⟨0, [], some H.length⟩ :: ds) (wit _)) : AWPW P n (.rangeFunc g ps x y) Q f H ds w := by
  simp only [Bool.and_eq_true] at hgo
  refine awp_rangeFunc hgo.1.1.1 hg hgo.2 ?_
  have base := hseq (H.length + 1) (fun s M => ∃ A, M = A ++ [.dfr true, .lp .ready none n f ps x y] ∧ J s A) (fun M => ∃ ex A, M = A ++ [.dfr true, .lp .done (jumpOf ex) n f ps x y] ∧ Jx ex A ∧ ex ≠ .normal ∧ ∀ z, ex ≠ .pan z) ?_ ?_
    (H ++ [.dfr true, .lp .ready none n f ps x y]) ⟨H, rfl, h0⟩
  · refine base.mono fun e M he => ?_
    obtain ⟨r, A', C, rfl, rfl, ⟨s, hs1, hs2, hs3, A, rfl, hA⟩ | ⟨ex, A, rfl, hA, hne, hnp⟩⟩ := he
    · have hl := (hJ _ _ hA).1
      refine ⟨r, rfl, .ready, .normal, ?_, by simp, ?_, ?_⟩
      · rw [← hl]; simp [jumpOf]
      · rw [← hl]; simp
      · have := fin s A (.lp .exhausted none n f ps x y :: C) hs1 hs2 hs3 hA
        simp only
        rw [← hl] at this ⊢
        simpa [jumpOf, QW] using this
    · have hl := hJx _ _ hA
      refine ⟨r, rfl, .done, ex, ?_, by simp, ?_, ?_⟩
      · rw [← hl]; simp
      · rw [← hl]; simp
      · have := finx ex A (.lp .exhausted (jumpOf ex) n f ps x y :: C) hA hne hnp
        rw [← hl] at this ⊢
        cases ex with
        | normal => exact absurd rfl hne
        | pan z => exact absurd rfl (hnp z)
        | _ => simpa [QW] using this
  · rintro s M ⟨A, rfl, hA⟩
    have := hJ s A hA
    exact ⟨by simp [this.1], A, _, rfl, this.1, this.2⟩
  · rintro s i M B e hs1 hs2 hs3 he ⟨A, rfl, hA⟩
    have hl := (hJ s A hA).1
    have hke : e.length = ps.size := hps e (List.mem_of_getElem? he)
    have hget : ∀ (A C : List Blk) (z u : Blk), A.length = H.length → (A ++ z :: u :: C)[H.length + 1]? = some u := by
      intro A C z u hh; rw [← hh]; simp
    have hset : ∀ (A C : List Blk) (z u u' : Blk), A.length = H.length → (A ++ z :: u :: C).set (H.length + 1) u' = A ++ z :: u' :: C := by
      intro A C z u u' hh; rw [← hh]; simp
    have hM : A ++ [.dfr true, .lp .ready none n f ps x y] ++ B = A ++ .dfr true :: .lp .ready none n f ps x y :: B := by simp
    rw [hM]
    refine ayield_of (hget _ _ _ _ hl) (by simp [hgo.1.1.2, hgo.1.2]) hke ?_
    refine AWP.mono (round s i A (.dfr true :: .lp .ready none n f ps x y :: B) e hs1 hs2 hs3 he hA) fun ex f1 M1 ds1 h1 => ?_
    obtain ⟨rfl, rfl, C0, rfl, h2⟩ := h1
    have hC0 : ∀ u : Blk, A ++ (Blk.dfr true :: u :: B ++ C0) = A ++ Blk.dfr true :: u :: (B ++ C0) := fun u => by simp
    rw [hC0]
    refine ⟨rfl, rfl, hget _ _ _ _ hl, ?_⟩
    rw [hset _ _ _ _ _ hl, ← hC0]
    refine AWP.mono (h2 (.dfr true :: .lp .busy none n f ps x y :: B) (by simp)) fun ex f2 M2 ds2 h3 => ?_
    obtain ⟨rfl, h3⟩ := h3
    have hx0 : (∀ z, ex ≠ .pan z) ∧ RoundEnd (J (s ++ [i])) Jx (.dfr true :: .lp .busy none n f ps x y :: B) ex M2 := by
      cases ex with
      | pan z => exact h3.elim
      | _ => exact ⟨by simp, h3⟩
    obtain ⟨hnp, A', C, rfl, hx⟩ := hx0
    have hM2 : A' ++ ((.dfr true :: .lp .busy none n f ps x y :: B) ++ C) = A' ++ .dfr true :: .lp .busy none n f ps x y :: (B ++ C) := by simp
    rw [hM2]
    have hl' : A'.length = H.length := by
      cases ex with
      | normal => exact (hJ _ _ hx).1
      | _ => exact hJx _ _ hx
    refine ⟨rfl, hget _ _ _ _ hl', ?_⟩
    cases ex with
    | normal => exact ⟨A' ++ [.dfr true, .lp .ready none n f ps x y], C, by rw [hset _ _ _ _ _ hl']; simp, .inl ⟨rfl, A', rfl, hx⟩⟩
    | pan z => exact absurd rfl (hnp z)
    | ret => exact ⟨A' ++ [.dfr true, .lp .done (jumpOf .ret) n f ps x y], C, by rw [hset _ _ _ _ _ hl']; simp, .inr ⟨rfl, _, A', rfl, hx, by simp, by simp⟩⟩
    | exit id => exact ⟨A' ++ [.dfr true, .lp .done (jumpOf (.exit id)) n f ps x y], C, by rw [hset _ _ _ _ _ hl']; simp, .inr ⟨rfl, _, A', rfl, hx, by simp, by simp⟩⟩
    | goto l => exact ⟨A' ++ [.dfr true, .lp .done (jumpOf (.goto l)) n f ps x y], C, by rw [hset _ _ _ _ _ hl']; simp, .inr ⟨rfl, _, A', rfl, hx, by simp, by simp⟩⟩
end Go.Mu
