/- Rows of the call's own, or none, in memory that is known in part. -/
import Derived.Test.YtganjkhdlehhdaaGreatFwUtoFwBox
import Derived.Test.YtganjkhdlehhdaaGreatFwArrtoME2
set_option linter.unusedVariables false
set_option linter.unusedSimpArgs false
set_option maxHeartbeats 4000000
set_option maxRecDepth 100000
namespace Go.Mu
def hrow (h : Option Nat) (n : Nat) : AV := match h with | none => .v (.slice none 0 0) | some k => .hs k 0 n n
def cutS (h : Option Nat) (m n : Nat) : AV := match h with | none => .v (.slice none 0 0) | some k => .hs k 0 m n
theorem cutS_all (h : Option Nat) (n : Nat) : cutS h n n = hrow h n := by cases h <;> rfl
structure RowAt' (t : TypeId) (sz : Nat) (M : List Blk) (h : Option Nat) (es : List (List AV)) : Prop where
  row : ∀ k, h = some k → M[k]? = some (.row t sz es)
  nil : h = none → es = []
structure Own (t : TypeId) (sz : Nat) (B M : List Blk) (h : Option Nat) (es : List (List AV)) : Prop where
  pre : ∃ L, M = B ++ L
  row : ∀ k, h = some k → M[k]? = some (.row t sz es)
  nil : h = none → es = []
  new : ∀ k, h = some k → B.length ≤ k
variable {t sz n : Nat} {B M : List Blk} {h : Option Nat} {es : List (List AV)}
theorem Own.nil1 (t sz : Nat) (B : List Blk) : Own t sz B B none [] := ⟨⟨[], by simp⟩, fun _ h => (by cases h), fun _ => rfl, fun _ h => (by cases h)⟩
theorem Own.old (o : Own t sz B M h es) {i : Nat} {b : Blk} (hb : B[i]? = some b) : M[i]? = some b := by
  obtain ⟨L, rfl⟩ := o.pre
  rw [List.getElem?_append_left (List.getElem?_eq_some_iff.1 hb).1]; exact hb
theorem Own.less {B0 B1 : List Blk} (o : Own t sz (B0 ++ B1) M h es) : Own t sz B0 M h es := by
  obtain ⟨⟨L, rfl⟩, r, nl, nw⟩ := o
  exact ⟨⟨B1 ++ L, by simp⟩, r, nl, fun k hk => by have := nw k hk; simp at this; omega⟩
structure Stp (M M' : List Blk) (h h' : Option Nat) : Prop where
  len : M.length ≤ M'.length
  get : ∀ i, i < M.length → h ≠ some i → M'[i]? = M[i]?
  new : h' = h ∨ ∃ i, h' = .some i ∧ M.length ≤ i
theorem Stp.refl (M : List Blk) (h : Option Nat) : Stp M M h h := ⟨Nat.le_refl _, fun _ _ _ => rfl, .inl rfl⟩
theorem ext_pre {B M : List Blk} (hl : B.length ≤ M.length) (hg : ∀ i, i < B.length → M[i]? = B[i]?) : ∃ L, M = B ++ L := by
  refine ⟨M.drop B.length, ?_⟩
  apply List.ext_getElem?
  intro i
  by_cases hi : i < B.length
  · rw [List.getElem?_append_left hi]; exact hg i hi
  · rw [List.getElem?_append_right (by omega), List.getElem?_drop]; congr 1; omega
theorem Own.step {M' : List Blk} {h' : Option Nat} {es' : List (List AV)} (o : Own t sz B M h es) (r : RowAt' t sz M' h' es') (s : Stp M M' h h') : Own t sz B M' h' es' := by
  obtain ⟨⟨L, rfl⟩, _, _, nw⟩ := o
  refine ⟨ext_pre (by have := s.len; simp at this; omega) (fun i hi => ?_), r.row, r.nil, fun k hk => ?_⟩
  · rw [s.get i (by simp; omega) (fun e => by have := nw i e; omega), List.getElem?_append_left hi]
  · rcases s.new with e | ⟨i, e, hi⟩
    · exact nw k (e ▸ hk)
    · rw [e] at hk; cases hk; simp at hi; omega
theorem Own.at' (o : Own t sz B M h es) : RowAt' t sz M h es := ⟨o.row, o.nil⟩
theorem app_at {ys : List (List AV)} {sl : TypeId × Nat × List Value × Nat} {K : AV → List Blk → Prop} {w : Wit K} (hr : RowAt' t sz M h es) (hn : n = es.length) (h1 : sl.1 = t) (h2 : sl.2.1 = sz) (hb : (es.length + ys.length) * sl.2.2.2 ≤ 140737488355328) (h63 : es.length + ys.length ≤ 9223372036854775807)
    (k : ∀ h' M', RowAt' t sz M' h' (es ++ ys) → Stp M M' h h' → K (hrow h' (es ++ ys).length) M') : appendVW M sl (hrow h n) ys K w := by
  subst hn
  obtain ⟨s1, s2, s3, s4⟩ := sl
  simp only at h1 h2 hb
  subst h1 h2
  cases h with
  | none =>
    have := hr.nil rfl
    subst this
    simp only [List.length_nil, Nat.zero_add] at hb
    simp only [hrow]
    refine appendVW_nil (by simpa using hb) (by simp at h63 ⊢; omega) (fun hy => ?_) (fun hy => ?_)
    · subst hy
      exact k none M ⟨fun _ h => (by cases h), fun _ => rfl⟩ (.refl _ _)
    · have := k (.some M.length) (M ++ [.row s1 s2 ys]) ⟨fun k hk => (by cases hk; simp), fun h => (by cases h)⟩ ⟨by simp, fun i hi _ => List.getElem?_append_left hi, .inr ⟨_, rfl, Nat.le_refl _⟩⟩
      simpa [hrow] using this
  | some i =>
    have q3 := hr.row i rfl
    have hil := (List.getElem?_eq_some_iff.1 q3).1
    simp only [hrow]
    refine appendVW_hs (es := es) q3 rfl rfl (by simpa using hb) h63 ?_
    have := k (.some i) (M.set i (.row s1 s2 (es ++ ys))) ⟨fun k hk => (by cases hk; simp [hil]), fun h => (by cases h)⟩ ⟨by simp, fun j hj hne => by rw [List.getElem?_set_ne (fun e => hne (by rw [e]))], .inl rfl⟩
    simpa [hrow] using this
theorem app_own {ys : List (List AV)} {sl : TypeId × Nat × List Value × Nat} {K : AV → List Blk → Prop} {w : Wit K} (o : Own t sz B M h es) (hn : n = es.length) (h1 : sl.1 = t) (h2 : sl.2.1 = sz) (hb : (es.length + ys.length) * sl.2.2.2 ≤ 140737488355328) (h63 : es.length + ys.length ≤ 9223372036854775807)
    (k : ∀ h' M', Own t sz B M' h' (es ++ ys) → Stp M M' h h' → K (hrow h' (es ++ ys).length) M') : appendVW M sl (hrow h n) ys K w :=
  app_at o.at' hn h1 h2 hb h63 fun h' M' r s => k h' M' (o.step r s) s
theorem tidy_giveC {H L : List Blk} {R : AE → List Blk → Prop} {f : AV → AV} {m : Nat} (hu : underH H.length H = true) (o : Own t sz H (H ++ L) h es) (hz : es.flatten.all AV.frzB = true)
    (hf : ∀ k, h = .some k → (f (.hs k 0 m es.length)).frz k sz es = f (.vs sz (es.take m)))
    (k : ∀ x L', Gv sz (es.take m) x → L'.length = L.length → (∀ i b, h ≠ .some i → (H ++ L)[i]? = .some b → b.under H.length = true → (H ++ L')[i]? = .some b) → Tidy H R (.ret (f x)) (H ++ L')) : Tidy H R (.ret (f (cutS h m es.length))) (H ++ L) := by
  cases h with
  | none =>
    have := o.nil rfl
    subst this
    refine k _ L (.inl ⟨rfl, by simp⟩) rfl fun i b _ hb _ => hb
  | some j =>
    obtain ⟨q, rfl⟩ : ∃ q, j = H.length + q := ⟨j - H.length, by have := o.new j rfl; omega⟩
    have hj := o.row _ rfl
    rw [List.getElem?_append_right (by omega), Nat.add_sub_cancel_left] at hj
    refine tidy_give hu q sz t es hj hz ?_
    show Tidy H R (.ret ((f (.hs (H.length + q) 0 m es.length)).frz (H.length + q) sz es)) _
    rw [hf _ rfl]
    refine k _ _ (.inr rfl) (by simp) fun i b hi hb hbu => ?_
    by_cases hil : i < H.length
    · rw [List.getElem?_append_left hil] at hb ⊢; exact hb
    · rw [List.getElem?_append_right (by omega)] at hb ⊢
      rw [List.getElem?_set_ne (fun e => hi (by rw [show i = H.length + q by omega])), List.getElem?_map, hb]
      simp only [Option.map_some, frzB_id (Nat.le_add_right _ _) b hbu]
theorem tidy_row1 {H : List Blk} {R : AE → List Blk → Prop} {m n : Nat} (hu : underH H.length H = true) (o : Own t sz H M h es) (hz : es.flatten.all AV.frzB = true) (hn : n = es.length) (hR : R (.ret (.vs sz (es.take m))) H) : Tidy H (WeakE R) (.ret (cutS h m n)) M := by
  subst hn
  obtain ⟨L, rfl⟩ := o.pre
  refine tidy_giveC (f := fun x => x) hu o hz (fun k hk => by simp [AV.frz]) fun x L' hx _ _ => ?_
  exact tidy_same (hx.under _) ⟨_, hx.weak, hR⟩
theorem tidy_rowA {H : List Blk} {R : AE → List Blk → Prop} {n : Nat} (hu : underH H.length H = true) (o : Own t sz H M h es) (hz : es.flatten.all AV.frzB = true) (hn : n = es.length) (hR : R (.ret (.vs sz es)) H) : Tidy H (WeakE R) (.ret (hrow h n)) M := by
  rw [← cutS_all]
  exact tidy_row1 hu o hz hn (by subst hn; rw [List.take_of_length_le (by omega)]; exact hR)
end Go.Mu
namespace Go.Mu
theorem awp_scope_r {P : Program} {n : Nat} {c : Code} {rs : List ResultVar} {R : AE → List Blk → Prop} {f : Fr} {H : List Blk} {ds : List ADef} (h : AWP P n c (retQ P rs R) f H ds) : AWP P n (.scope c) (retQ P rs R) f H ds := by
  refine awp_scope ?_
  refine Eq.mpr (congrArg (fun Q => AWP P n c Q f H ds) (a₂ := retQ P rs R) ?_) h
  funext x f H ds
  cases x <;> rfl
end Go.Mu
namespace Go.Mu
theorem astore_one {M : List Blk} {k t sz i n : Nat} {es : List (List AV)} {c x : AV} (hr : M[k]? = some (.row t sz es)) (hn : es.length = n) (hi : es[i]? = some [c]) : astore M (.rp k n i 0) [x] = some (M.set k (.row t sz (es.set i [x]))) := by
  subst hn
  simp [astore, hr, hi, spl]
end Go.Mu
namespace Go.Mu
theorem awp_giveX {P : Program} {n : Nat} {Q : AQ} {c : Code} {f : Fr} {N M : List Blk} {h : Option Nat} {t sz m : Nat} {es : List (List AV)} (s0 : Nat) (hu : underH N.length N = true) (o : Own t sz N M h es) (hz : es.flatten.all AV.frzB = true) (hs : f s0 = hrow h m) (hm : m = es.length)
    (k : ∀ M' f', f' s0 = .vs sz es → (∃ L, M' = N ++ L) → (∀ s, s ≠ s0 → (∀ j, h = some j → N.length ≤ j → (f s).frz j sz es = f s) → f' s = f s) → (∀ i b, h ≠ some i → M[i]? = some b → b.under N.length = true → M'[i]? = some b) → AWP P n c Q f' M' []) : AWP P n c Q f M [] := by
  subst hm
  cases h with
  | none =>
    have := o.nil rfl
    subst this
    refine awp_weak (f' := fun s => if s = s0 then .vs sz [] else f s) (fun s => ?_) (k M _ (if_pos rfl) o.pre (fun s hne _ => if_neg hne) (fun i b _ hb _ => hb))
    by_cases e : s = s0
    · subst e; simp only [if_true]; rw [hs]; exact .nil sz
    · simp only [e, if_false]; exact .refl _
  | some j =>
    obtain ⟨L, rfl⟩ := o.pre
    obtain ⟨q, rfl⟩ : ∃ q, j = N.length + q := ⟨j - N.length, by have := o.new j rfl; omega⟩
    have hj := o.row _ rfl
    rw [List.getElem?_append_right (by omega), Nat.add_sub_cancel_left] at hj
    refine awp_giveRow hu q sz t es hj hz fun L' f' hf hl hg => ?_
    refine k _ f' (by rw [hf, hs]; simp [hrow, AV.frz]) ⟨_, rfl⟩ (fun s _ hus => by rw [hf]; exact hus _ rfl (by omega)) (fun i b hi hb hbu => ?_)
    by_cases hil : i < N.length
    · rw [List.getElem?_append_left hil] at hb ⊢; exact hb
    · rw [List.getElem?_append_right (by omega)] at hb ⊢
      exact hg _ _ (fun e => hi (by rw [show i = N.length + q by omega])) hb hbu
theorem frz_hrow_ne {h2 : Option Nat} {k sz n : Nat} {es : List (List AV)} (hne : h2 ≠ some k) : (hrow h2 n).frz k sz es = hrow h2 n := by
  cases h2 with
  | none => rfl
  | some j => simp only [hrow, AV.frz]; rw [if_neg]; rintro ⟨e, _⟩; exact hne (by rw [e])
end Go.Mu
namespace Go.Mu
end Go.Mu
namespace Go.Proofs
open Go.Mu
theorem mayL_no {l : List Rg} (h : ¬ l.length ≤ 16) : mayL l = false := by unfold mayL; rw [decide_eq_false h]; rfl
theorem mayL_at {l : List Rg} {i : Nat} (hi : i < l.length) (h : mayAt l i = false) : mayL l = false := by
  unfold mayL
  rw [Bool.and_eq_false_iff]
  refine .inr ?_
  rw [List.all_eq_false]
  exact ⟨i, List.mem_range.2 hi, by rw [h]; decide⟩
theorem mayL_yes {l : List Rg} (h0 : l.length ≤ 16) (h : ∀ j, j < l.length → mayAt l j = true) : mayL l = true := by
  unfold mayL
  rw [decide_eq_true h0, Bool.true_and, List.all_eq_true]
  exact fun j hj => h j (List.mem_range.1 hj)
theorem mayAt_no1 {l : List Rg} {i : Nat} {a : Rg} (ha : l[i]? = some a) (h : a.may = false) : mayAt l i = false := by unfold mayAt; rw [ha]; simp [h]
theorem mayAt_no2 {l : List Rg} {i k : Nat} {a b : Rg} (ha : l[i]? = some a) (hb : l[k]? = some b) (hk : k < i) (h : a.clash b = true) : mayAt l i = false := by
  unfold mayAt
  rw [ha]
  simp only [Bool.and_eq_false_iff]
  refine .inr ?_
  rw [List.all_eq_false]
  exact ⟨b, List.mem_of_getElem? (by rw [List.getElem?_take, if_pos hk]; exact hb), by rw [h]; decide⟩
theorem mayAt_yes {l : List Rg} {i : Nat} {a : Rg} (ha : l[i]? = some a) (h : a.may = true) (hc : ∀ k b, k < i → l[k]? = some b → a.clash b = false) : mayAt l i = true := by
  unfold mayAt
  rw [ha]
  simp only [Bool.and_eq_true, List.all_eq_true, Bool.not_eq_true']
  refine ⟨h, fun b hb => ?_⟩
  obtain ⟨k, hk⟩ := List.mem_iff_getElem?.1 hb
  rw [List.getElem?_take] at hk
  split at hk
  · exact hc k b (by assumption) hk
  · cases hk
theorem mayAt_ok {l : List Rg} {i : Nat} {a : Rg} (ha : l[i]? = some a) (h : mayAt l i = true) : a.Ok := by
  unfold mayAt at h
  rw [ha] at h
  simp only [Bool.and_eq_true] at h
  exact (Rg.may_iff a).1 h.1
theorem mayL_ok {l : List Rg} (h : mayL l = true) : l.length ≤ 16 ∧ ∀ a ∈ l, a.Ok := by
  unfold mayL at h
  simp only [Bool.and_eq_true, decide_eq_true_eq, List.all_eq_true] at h
  refine ⟨h.1, fun a ha => ?_⟩
  obtain ⟨j, hj⟩ := List.mem_iff_getElem?.1 ha
  exact mayAt_ok hj (h.2 j (List.mem_range.2 (List.getElem?_eq_some_iff.1 hj).1))
theorem mmay_ok (l : List Rg) (hl : l.length ≤ 2^40) (H : List Blk) : ACalls Tryz.prog 62 [Rg.sl l] H (fun e H' => e = .ret (Bo (mayL l)) ∧ H' = H) := by
  refine acalls_tidy (acalls_of_awp Tryz.func62 rfl (by kernel_rfl) ?_)
  obtain ⟨E, hE⟩ : ∃ E, E = mayL l := ⟨_, rfl⟩
  rw [← hE]
  refine awp_cut (fun _ => false) (fun _ => none) (fun f M => H = M ∧ f 0 = Rg.sl l) (by kernel_rfl) ?_ ?_
  · simp -dsimp
  rintro f _ ⟨rfl, f0⟩
  refine awp_scope_r ?_
  refine awp_all (fun _ => false) (fun _ => none) (by kernel_rfl) ?_
  simp -dsimp [f0]
  by_cases h16 : l.length ≤ 16
  · have d16 : decide ((16 : Int) < (l.length : Int)) = false := decide_eq_false (by omega)
    have hat := fun i (hi : i < l.length) h => mayL_at hi h
    have hyes := mayL_yes h16
    rw [← hE] at hat hyes
    have hat := Hid.mk hat
    have hyes := Hid.mk hyes
    have hE := Hid.mk hE
    simp -dsimp [f0, d16]
    refine loop_rule (hn := fun _ => false) (od := fun _ => none) (fun (i : Nat) f M => f 0 = Rg.sl l ∧ f 3 = Bo true ∧ f 11 = Rg.sl l ∧ f 12 = I l.length ∧ f 13 = I i ∧ i ≤ l.length ∧ (∃ L, M = H ++ L) ∧ Hid (∀ j, j < i → mayAt l j = true)) (fun i => l.length - i) (by kernel_rfl) 0 (by refine ⟨by simp [f0], by simp, by simp, by simp, by simp, by omega, ⟨[], by simp⟩, ⟨fun j hj => by omega⟩⟩) ?_
    clear f0 f
    rintro i f _ ⟨f0, f3, f11, f12, f13, hi, ⟨L, rfl⟩, hok⟩
    simp -dsimp [f0, f3, f11, f12, f13]
    refine condVW_introD (fun hlt => ?_) (fun hlt => ?_)
    · have hlt' : i < l.length := by omega
      have hx := List.getElem?_eq_getElem hlt'
      obtain ⟨a, hae⟩ : ∃ a, a = l[i] := ⟨_, rfl⟩
      rw [← hae] at hx
      clear hae
      have g16 : (l.map Rg.cells)[i]? = some [St a.name, I a.addr, I a.size, Bo a.secret] := by rw [List.getElem?_map, hx]; rfl
      have ca := fun H => mmay1_ok a H
      simp only [Rg.cells] at ca
      obtain ⟨M, hM⟩ : ∃ M, M = H ++ L := ⟨_, rfl⟩
      rw [← hM]
      simp -dsimp [f0, f3, f11, f12, f13, g16]
      refine acallsW_det (ca _) ?_
      cases hm : a.may
      · have := hat.out i hlt' (mayAt_no1 hx hm)
        rw [this]
        simp -dsimp [f0, f3, f11, f12, f13]
        rw [hM, List.append_assoc]
        exact tidy_same rfl ⟨rfl, rfl⟩
      · have hao := (Rg.may_iff a).1 hm
        have hfa := Rg.fin_ok hao
        have ce := fun H => mend_ok a H
        rw [hfa] at ce
        simp only [Rg.cells] at ce
        obtain ⟨N, hN⟩ : ∃ N, N = M ++ [Blk.box 125 [St a.name, I a.addr, I a.size, Bo a.secret]] := ⟨_, rfl⟩
        have hNL : ∃ X, N = H ++ X := ⟨_, by rw [hN, hM, List.append_assoc]⟩
        have n1 : ∀ L, (N ++ L)[M.length]? = some (.box 125 [St a.name, I a.addr, I a.size, Bo a.secret]) := fun L => by rw [hN]; simp
        have dl : decide ((i : Int) ≤ (l.length : Int)) = true := decide_eq_true (by omega)
        have ml : min i l.length = i := by omega
        simp -dsimp [f0, f3, f11, f12, f13]
        rw [← hN]
        refine andVW_intro hi ?_
        obtain ⟨T, hT⟩ : ∃ T, T = List.drop ((none : Option Int).getD 0).toNat (List.take ((some (i : Int)).getD ((l.map Rg.cells).length : Int)).toNat (l.map Rg.cells)) := ⟨_, rfl⟩
        rw [← hT]
        have hT2 : T = (l.map Rg.cells).take i := by rw [hT]; simp
        have hTl : T.length = i := by rw [hT2]; simp; omega
        have hTk : ∀ (k : Nat) (b : Rg), k < i → l[k]? = some b → T[k]? = some b.cells := fun k b hk hb => by rw [hT2, List.getElem?_take, if_pos hk, List.getElem?_map, hb]; rfl
        clear hT hT2
        have hTk := Hid.mk hTk
        simp -dsimp [f0, f3, f11, f12, f13, hTl]
        refine loop_rule (hn := fun _ => false) (od := fun _ => none) (fun (k : Nat) g M' => g 0 = Rg.sl l ∧ g 3 = Bo true ∧ g 5 = .bp M.length 0 ∧ g 11 = Rg.sl l ∧ g 12 = I l.length ∧ g 13 = I i ∧ g 24 = .vs 4 T ∧ g 25 = I i ∧ g 26 = I k ∧ k ≤ i ∧ (∃ L, M' = N ++ L) ∧ Hid (∀ q b, q < k → l[q]? = some b → a.clash b = false)) (fun k => i - k) (by kernel_rfl) 0 (by refine ⟨by simp [f0], by simp, by simp, by simp [f11], by simp [f12], by simp [f13], by simp, by simp, by simp, by omega, ⟨[], by simp⟩, ⟨fun q b hq => by omega⟩⟩) ?_
        clear f0 f3 f11 f12 f13 f
        rintro k f _ ⟨f0, f3, f5, f11, f12, f13, f24, f25, f26, hk, ⟨L2, rfl⟩, hcl⟩
        simp -dsimp [f0, f3, f5, f11, f12, f13, f24, f25, f26]
        refine condVW_introD (fun hlt2 => ?_) (fun hlt2 => ?_)
        · have hlt2' : k < i := by omega
          have hy := List.getElem?_eq_getElem (show k < l.length by omega)
          obtain ⟨b, hbe⟩ : ∃ b, b = l[k] := ⟨_, rfl⟩
          rw [← hbe] at hy
          clear hbe
          have gk : T[k]? = some [St b.name, I b.addr, I b.size, Bo b.secret] := hTk.out k b hlt2' hy
          have hbo := mayAt_ok hy (hok.out k hlt2')
          have hfb := Rg.fin_ok hbo
          have cb := fun H => mend_ok b H
          rw [hfb] at cb
          simp only [Rg.cells] at cb
          have hcd : a.clash b = (decide (a.name = b.name) || (decide (a.addr < b.addr + 8 * b.size) && decide (b.addr < a.addr + 8 * a.size))) := rfl
          obtain ⟨e1, he1⟩ : ∃ e, e = decide (a.name = b.name) := ⟨_, rfl⟩
          obtain ⟨e2, he2⟩ : ∃ e, e = decide (a.addr < b.addr + 8 * b.size) := ⟨_, rfl⟩
          obtain ⟨e3, he3⟩ : ∃ e, e = decide (b.addr < a.addr + 8 * a.size) := ⟨_, rfl⟩
          rw [← he1, ← he2, ← he3] at hcd
          have he1 := he1.symm
          have he2 := he2.symm
          have he3 := he3.symm
          have n1a := n1 L2
          have n1b := n1 (L2 ++ [.box 125 [St b.name, I b.addr, I b.size, Bo b.secret]])
          have n2 : (N ++ (L2 ++ [.box 125 [St b.name, I b.addr, I b.size, Bo b.secret]]))[N.length + L2.length]? = some (.box 125 [St b.name, I b.addr, I b.size, Bo b.secret]) := by rw [← List.append_assoc, List.getElem?_append_right (by simp)]; simp
          have bad : a.clash b = true → E = false := fun h => hat.out i hlt' (mayAt_no2 hx hy hlt2' h)
          have hgo : a.clash b = false → Hid (∀ q c, q < k + 1 → l[q]? = some c → a.clash c = false) := fun h => ⟨fun q c hq hc => by
            by_cases e : q = k
            · subst e; rw [hy] at hc; cases hc; exact h
            · exact hcl.out q c (by omega) hc⟩
          have bad := Hid.mk bad
          have hgo := Hid.mk hgo
          have hcd := Hid.mk hcd
          simp -dsimp [f0, f3, f5, f11, f12, f13, f24, f25, f26, gk, n1b, n2, he1]
          cases e1
          · simp -dsimp [f0, f3, f5, f11, f12, f13, f24, f25, f26, gk, n1b, n2]
            refine callDW_intro (cb _) ?_
            simp -dsimp [f0, f3, f5, f11, f12, f13, f24, f25, f26, gk, n1b, n2, he2]
            cases e2
            ·
              simp -dsimp [f0, f3, f5, f11, f12, f13, f24, f25, f26]
              exact ⟨k + 1, by omega, wrapS (by omega), by omega, hgo.out (by rw [hcd.out]; rfl)⟩
            · simp -dsimp [f0, f3, f5, f11, f12, f13, f24, f25, f26, gk, n1b, n2]
              refine callDW_intro (ce _) ?_
              simp -dsimp [f0, f3, f5, f11, f12, f13, f24, f25, f26, gk, n1b, n2, he3]
              cases e3
              ·
                simp -dsimp [f0, f3, f5, f11, f12, f13, f24, f25, f26]
                exact ⟨k + 1, by omega, wrapS (by omega), by omega, hgo.out (by rw [hcd.out]; rfl)⟩
              ·
                rw [bad.out (by rw [hcd.out]; rfl)]
                simp -dsimp [f0, f3, f5, f11, f12, f13, f24, f25, f26]
                obtain ⟨X, rfl⟩ := hNL
                rw [List.append_assoc]
                exact tidy_same rfl ⟨rfl, rfl⟩
          ·
            rw [bad.out (by rw [hcd.out]; rfl)]
            simp -dsimp [f0, f3, f5, f11, f12, f13, f24, f25, f26]
            obtain ⟨X, rfl⟩ := hNL
            rw [List.append_assoc]
            exact tidy_same rfl ⟨rfl, rfl⟩
        · simp -dsimp [f0, f3, f5, f11, f12, f13, f24, f25, f26]
          obtain ⟨X, rfl⟩ := hNL
          refine ⟨i + 1, by omega, wrapS (by omega), by omega, ⟨_, by rw [List.append_assoc]⟩, ⟨fun j hj => ?_⟩⟩
          by_cases e : j = i
          · subst e; exact mayAt_yes hx hm (fun q b hq hb => hcl.out q b (by omega) hb)
          · exact hok.out j (by omega)
    · rw [hyes.out (fun j hj => hok.out j (by omega))]
      simp -dsimp [f0, f3, f11, f12, f13]
      exact tidy_same rfl ⟨rfl, rfl⟩
  · have d16 : decide ((16 : Int) < (l.length : Int)) = true := decide_eq_true (by omega)
    simp -dsimp [f0, d16]
    rw [hE, mayL_no h16]
    exact tidy_now rfl ⟨rfl, rfl⟩
end Go.Proofs
namespace Go.Proofs
open Go.Mu
theorem rmmay_ok (l : List Rg) (hl : l.length ≤ 2^40) (H : List Blk) : ACalls Tryz.prog 29 [Rg.sl l] H (fun e H' => e = .ret (Bo (mayL l)) ∧ H' = H) := by
  refine acalls_tidy (acalls_of_vc (hn := fun _ => false) (od := fun _ => none) Tryz.func29 rfl (by kernel_rfl) ?_)
  obtain ⟨E, hE⟩ : ∃ E, E = mayL l := ⟨_, rfl⟩
  rw [← hE]
  simp -dsimp
  by_cases h16 : l.length ≤ 16
  · have d16 : decide ((16 : Int) < (l.length : Int)) = false := decide_eq_false (by omega)
    have hat := fun i (hi : i < l.length) h => mayL_at hi h
    have hyes := mayL_yes h16
    rw [← hE] at hat hyes
    have hat := Hid.mk hat
    have hyes := Hid.mk hyes
    have hE := Hid.mk hE
    simp -dsimp [d16]
    refine loop_rule (hn := fun _ => false) (od := fun _ => none) (fun (i : Nat) f M => f 0 = Rg.sl l ∧ f 3 = I i ∧ i ≤ l.length ∧ (∃ L, M = H ++ L) ∧ Hid (∀ j, j < i → mayAt l j = true)) (fun i => l.length - i) (by kernel_rfl) 0 (by refine ⟨by simp, by simp, by omega, ⟨[], by simp⟩, ⟨fun j hj => by omega⟩⟩) ?_
    rintro i f _ ⟨f0, f3, hi, ⟨L, rfl⟩, hok⟩
    simp -dsimp [f0, f3]
    refine condVW_introD (fun hlt => ?_) (fun hlt => ?_)
    · have hlt' : i < l.length := by omega
      have hx := List.getElem?_eq_getElem hlt'
      obtain ⟨a, hae⟩ : ∃ a, a = l[i] := ⟨_, rfl⟩
      rw [← hae] at hx
      clear hae
      have g16 : (l.map Rg.cells)[i]? = some [St a.name, I a.addr, I a.size, Bo a.secret] := by rw [List.getElem?_map, hx]; rfl
      obtain ⟨M, hM⟩ : ∃ M, M = H ++ L := ⟨_, rfl⟩
      rw [← hM]
      have hmE : a.may = (decide (1 ≤ a.name.size) && decide (a.name.size ≤ 16) && decide (1 ≤ a.size) && decide (a.size ≤ 512) && decide (0 ≤ a.addr) && decide (a.addr.tmod 8 = 0) && decide (a.addr ≤ 49152 - 8 * a.size)) := rfl
      have no := hat.out i hlt'
      have no1 := fun h => no (mayAt_no1 hx h)
      obtain ⟨c1, h1⟩ : ∃ c, c = decide (1 ≤ a.name.size) := ⟨_, rfl⟩
      obtain ⟨c2, h2⟩ : ∃ c, c = decide (a.name.size ≤ 16) := ⟨_, rfl⟩
      obtain ⟨c3, h3⟩ : ∃ c, c = decide (1 ≤ a.size) := ⟨_, rfl⟩
      obtain ⟨c4, h4⟩ : ∃ c, c = decide (a.size ≤ 512) := ⟨_, rfl⟩
      obtain ⟨c5, h5⟩ : ∃ c, c = decide (0 ≤ a.addr) := ⟨_, rfl⟩
      obtain ⟨c6, h6⟩ : ∃ c, c = decide (a.addr.tmod 8 = 0) := ⟨_, rfl⟩
      obtain ⟨c7, h7⟩ : ∃ c, c = decide (a.addr ≤ 49152 - 8 * a.size) := ⟨_, rfl⟩
      rw [← h1, ← h2, ← h3, ← h4, ← h5, ← h6, ← h7] at hmE
      have neg : ∀ (p q : Prop) [Decidable p] [Decidable q], (p ↔ ¬ q) → decide p = !decide q := fun p q _ _ h => by
        by_cases hq : q <;> simp [hq, h]
      have d1 : decide ((a.name.size : Int) < 1) = !c1 := by rw [h1]; exact neg _ _ (by omega)
      have d2 : decide ((16 : Int) < (a.name.size : Int)) = !c2 := by rw [h2]; exact neg _ _ (by omega)
      have d3 : decide (a.size < 1) = !c3 := by rw [h3]; exact neg _ _ (by omega)
      have d4 : decide (512 < a.size) = !c4 := by rw [h4]; exact neg _ _ (by omega)
      have d5 : decide (a.addr < 0) = !c5 := by rw [h5]; exact neg _ _ (by omega)
      have d6 : (a.addr.tmod 8 != 0) = !c6 := by rw [h6]; by_cases q : a.addr.tmod 8 = 0 <;> simp [q]
      have d7 : c3 = true → c4 = true → decide (IntKind.i64.wrap (49152 - IntKind.i64.wrap (8 * a.size)) < a.addr) = !c7 := fun e3 e4 => by
        rw [h3, decide_eq_true_eq] at e3
        rw [h4, decide_eq_true_eq] at e4
        rw [h7, wrapI (n := 8 * a.size) (by omega) (by omega), wrapI (by omega) (by omega)]
        exact neg _ _ (by omega)
      have hmE := Hid.mk hmE
      have no1 := Hid.mk no1
      clear h1 h2 h3 h4 h5 h6 h7 neg no
      cases c1
      · simp -dsimp [f0, f3, g16, d1, d2, d3, d4, d5, d6]
        rw [no1.out (by rw [hmE.out]; simp), hM, List.append_assoc]
        exact tidy_same rfl ⟨rfl, rfl⟩
      cases c2
      · simp -dsimp [f0, f3, g16, d1, d2, d3, d4, d5, d6]
        rw [no1.out (by rw [hmE.out]; simp), hM, List.append_assoc]
        exact tidy_same rfl ⟨rfl, rfl⟩
      cases c3
      · simp -dsimp [f0, f3, g16, d1, d2, d3, d4, d5, d6]
        rw [no1.out (by rw [hmE.out]; simp), hM, List.append_assoc]
        exact tidy_same rfl ⟨rfl, rfl⟩
      cases c4
      · simp -dsimp [f0, f3, g16, d1, d2, d3, d4, d5, d6]
        rw [no1.out (by rw [hmE.out]; simp), hM, List.append_assoc]
        exact tidy_same rfl ⟨rfl, rfl⟩
      cases c5
      · simp -dsimp [f0, f3, g16, d1, d2, d3, d4, d5, d6]
        rw [no1.out (by rw [hmE.out]; simp), hM, List.append_assoc]
        exact tidy_same rfl ⟨rfl, rfl⟩
      cases c6
      · simp -dsimp [f0, f3, g16, d1, d2, d3, d4, d5, d6]
        rw [no1.out (by rw [hmE.out]; simp), hM, List.append_assoc]
        exact tidy_same rfl ⟨rfl, rfl⟩
      have d7 := d7 rfl rfl
      cases c7
      · simp -dsimp [f0, f3, g16, d1, d2, d3, d4, d5, d6, d7]
        rw [no1.out (by rw [hmE.out]; simp), hM, List.append_assoc]
        exact tidy_same rfl ⟨rfl, rfl⟩
      have hm : a.may = true := by rw [hmE.out]; rfl
      have hao := (Rg.may_iff a).1 hm
      have b1 := hao.s1
      have b2 := hao.s2
      have b3 := hao.a1
      have b4 := hao.a3
      have wa1 : IntKind.i64.wrap (8 * a.size) = 8 * a.size := wrapI (by omega) (by omega)
      have wa2 : IntKind.i64.wrap (a.addr + 8 * a.size) = a.addr + 8 * a.size := wrapI (by omega) (by omega)
      obtain ⟨N, hN⟩ : ∃ N, N = M ++ [Blk.box 125 [St a.name, I a.addr, I a.size, Bo a.secret]] := ⟨_, rfl⟩
      have hNL : ∃ X, N = H ++ X := ⟨_, by rw [hN, hM, List.append_assoc]⟩
      have n1 : N[M.length]? = some (.box 125 [St a.name, I a.addr, I a.size, Bo a.secret]) := by rw [hN]; simp
      simp -dsimp [f0, f3, g16, d1, d2, d3, d4, d5, d6, d7]
      rw [← hN]
      refine loop_rule (hn := fun _ => false) (od := fun _ => none) (fun (k : Nat) g M' => N = M' ∧ g 0 = Rg.sl l ∧ g 3 = I i ∧ g 4 = .bp M.length 0 ∧ g 5 = I k ∧ k ≤ i ∧ Hid (∀ q b, q < k → l[q]? = some b → a.clash b = false)) (fun k => i - k) (by kernel_rfl) 0 (by refine ⟨rfl, by simp [f0], by simp [f3], by simp, by simp, by omega, ⟨fun q b hq => by omega⟩⟩) ?_
      clear f0 f3 f d1 d2 d3 d4 d5 d6 d7
      rintro k f _ ⟨rfl, f0, f3, f4, f5, hk, hcl⟩
      simp -dsimp [f0, f3, f4, f5]
      refine condVW_introD (fun hlt2 => ?_) (fun hlt2 => ?_)
      · have hlt2' : k < i := by omega
        have hy := List.getElem?_eq_getElem (show k < l.length by omega)
        obtain ⟨b, hbe⟩ : ∃ b, b = l[k] := ⟨_, rfl⟩
        rw [← hbe] at hy
        clear hbe
        have gk : (l.map Rg.cells)[k]? = some [St b.name, I b.addr, I b.size, Bo b.secret] := by rw [List.getElem?_map, hy]; rfl
        have hbo := mayAt_ok hy (hok.out k hlt2')
        have b5 := hbo.s1
        have b6 := hbo.s2
        have b7 := hbo.a1
        have b8 := hbo.a3
        have wb1 : IntKind.i64.wrap (8 * b.size) = 8 * b.size := wrapI (by omega) (by omega)
        have wb2 : IntKind.i64.wrap (b.addr + 8 * b.size) = b.addr + 8 * b.size := wrapI (by omega) (by omega)
        have hcd : a.clash b = (decide (a.name = b.name) || (decide (a.addr < b.addr + 8 * b.size) && decide (b.addr < a.addr + 8 * a.size))) := rfl
        obtain ⟨e1, he1⟩ : ∃ e, e = decide (a.name = b.name) := ⟨_, rfl⟩
        obtain ⟨e2, he2⟩ : ∃ e, e = decide (a.addr < b.addr + 8 * b.size) := ⟨_, rfl⟩
        obtain ⟨e3, he3⟩ : ∃ e, e = decide (b.addr < a.addr + 8 * a.size) := ⟨_, rfl⟩
        rw [← he1, ← he2, ← he3] at hcd
        have he1 : decide (b.name = a.name) = e1 := by rw [he1]; exact decide_eq_decide.2 eq_comm
        have he2 := he2.symm
        have he3 := he3.symm
        have bad : a.clash b = true → E = false := fun h => hat.out i hlt' (mayAt_no2 hx hy hlt2' h)
        have hgo : a.clash b = false → Hid (∀ q c, q < k + 1 → l[q]? = some c → a.clash c = false) := fun h => ⟨fun q c hq hc => by
          by_cases e : q = k
          · subst e; rw [hy] at hc; cases hc; exact h
          · exact hcl.out q c (by omega) hc⟩
        have bad := Hid.mk bad
        have hgo := Hid.mk hgo
        have hcd := Hid.mk hcd
        cases e1
        · cases e3
          · simp -dsimp [f0, f3, f4, f5, gk, n1, wa1, wa2, wb1, wb2, he1, he2, he3]
            exact ⟨k + 1, by omega, wrapS (by omega), by omega, hgo.out (by rw [hcd.out]; simp)⟩
          · cases e2
            · simp -dsimp [f0, f3, f4, f5, gk, n1, wa1, wa2, wb1, wb2, he1, he2, he3]
              exact ⟨k + 1, by omega, wrapS (by omega), by omega, hgo.out (by rw [hcd.out]; simp)⟩
            · simp -dsimp [f0, f3, f4, f5, gk, n1, wa1, wa2, wb1, wb2, he1, he2, he3]
              rw [bad.out (by rw [hcd.out]; simp)]
              obtain ⟨X, rfl⟩ := hNL
              exact tidy_same rfl ⟨rfl, rfl⟩
        · simp -dsimp [f0, f3, f4, f5, gk, n1, wa1, wa2, wb1, wb2, he1, he2, he3]
          rw [bad.out (by rw [hcd.out]; simp)]
          obtain ⟨X, rfl⟩ := hNL
          exact tidy_same rfl ⟨rfl, rfl⟩
      · simp -dsimp [f0, f3, f4, f5]
        obtain ⟨X, rfl⟩ := hNL
        refine ⟨i + 1, by omega, wrapS (by omega), by omega, ⟨_, rfl⟩, ⟨fun j hj => ?_⟩⟩
        by_cases e : j = i
        · subst e; exact mayAt_yes hx hm (fun q b hq hb => hcl.out q b (by omega) hb)
        · exact hok.out j (by omega)
    · rw [hyes.out (fun j hj => hok.out j (by omega))]
      simp -dsimp [f0, f3]
      exact tidy_same rfl ⟨rfl, rfl⟩
  · have d16 : decide ((16 : Int) < (l.length : Int)) = true := decide_eq_true (by omega)
    simp -dsimp [d16]
    rw [hE, mayL_no h16]
    exact tidy_now rfl ⟨rfl, rfl⟩
def fitsL (l : List Rg) (w : List (List Int)) : Bool := decide (l.length = w.length) && (List.range l.length).all fun i => match l[i]?, w[i]? with | some r, some x => decide ((x.length : Int) = r.size) | _, _ => false
abbrev Wo.sl (l : List Int) : AV := .vs 1 (l.map fun w => [U w])
abbrev Us.sl (w : List (List Int)) : AV := .vs 1 (w.map fun x => [Wo.sl x])
theorem fits_at {l : List Rg} {w : List (List Int)} (h : fitsL l w = true) : l.length = w.length ∧ ∀ (i : Nat) r x, l[i]? = some r → w[i]? = some x → (x.length : Int) = r.size := by
  unfold fitsL at h
  simp only [Bool.and_eq_true, decide_eq_true_eq, List.all_eq_true, List.mem_range] at h
  refine ⟨h.1, fun i r x hr hx => ?_⟩
  have := h.2 i (List.getElem?_eq_some_iff.1 hr).1
  rw [hr, hx] at this
  simpa using this
theorem rmfits_ok (l : List Rg) (w : List (List Int)) (hl : l.length ≤ 2^40) (H : List Blk) : ACalls Tryz.prog 30 [Rg.sl l, Us.sl w] H (fun e H' => e = .ret (Bo (fitsL l w)) ∧ H' = H) := by
  refine acalls_tidy (acalls_of_vc (hn := fun _ => false) (od := fun _ => none) Tryz.func30 rfl (by kernel_rfl) ?_)
  obtain ⟨E, hE⟩ : ∃ E, E = fitsL l w := ⟨_, rfl⟩
  rw [← hE]
  simp -dsimp
  by_cases hlw : l.length = w.length
  · have dlw : ((l.length : Int) != (w.length : Int)) = false := by simp [hlw]
    have hno : ∀ (i : Nat) r x, l[i]? = some r → w[i]? = some x → ¬ (x.length : Int) = r.size → E = false := fun i r x hr hx h => by
      rw [hE, fitsL, Bool.and_eq_false_iff]
      refine .inr (List.all_eq_false.2 ⟨i, List.mem_range.2 (List.getElem?_eq_some_iff.1 hr).1, ?_⟩)
      rw [hr, hx]
      simpa using h
    have hyes : (∀ (i : Nat) r x, l[i]? = some r → w[i]? = some x → (x.length : Int) = r.size) → E = true := fun h => by
      rw [hE, fitsL, decide_eq_true hlw, Bool.true_and, List.all_eq_true]
      intro i hi
      have h1 := List.getElem?_eq_getElem (List.mem_range.1 hi)
      have h2 := List.getElem?_eq_getElem (show i < w.length by have := List.mem_range.1 hi; omega)
      rw [h1, h2]
      simpa using h i _ _ h1 h2
    have hno := Hid.mk hno
    have hyes := Hid.mk hyes
    have hE := Hid.mk hE
    have hlw := Hid.mk hlw
    simp -dsimp [dlw]
    refine loop_rule (hn := fun _ => false) (od := fun _ => none) (fun (i : Nat) f M => H = M ∧ f 0 = Rg.sl l ∧ f 1 = Us.sl w ∧ f 5 = I i ∧ i ≤ l.length ∧ Hid (∀ (j : Nat) r x, j < i → l[j]? = some r → w[j]? = some x → (x.length : Int) = r.size)) (fun i => l.length - i) (by kernel_rfl) 0 (by refine ⟨rfl, by simp, by simp, by simp, by omega, ⟨fun j r x hj => by omega⟩⟩) ?_
    rintro i f _ ⟨rfl, f0, f1, f5, hi, hok⟩
    simp -dsimp [f0, f1, f5]
    refine condVW_introD (fun hlt => ?_) (fun hlt => ?_)
    · have hlt' : i < l.length := by omega
      have hx := List.getElem?_eq_getElem hlt'
      have hy := List.getElem?_eq_getElem (show i < w.length by rw [← hlw.out]; exact hlt')
      obtain ⟨a, hae⟩ : ∃ a, a = l[i] := ⟨_, rfl⟩
      obtain ⟨x, hxe⟩ : ∃ x, x = w[i]'(by rw [← hlw.out]; exact hlt') := ⟨_, rfl⟩
      rw [← hae] at hx
      rw [← hxe] at hy
      clear hae hxe
      have g1 : (l.map Rg.cells)[i]? = some [St a.name, I a.addr, I a.size, Bo a.secret] := by rw [List.getElem?_map, hx]; rfl
      have g2 : (w.map fun x => [Wo.sl x])[i]? = some [Wo.sl x] := by rw [List.getElem?_map, hy]; rfl
      by_cases hs : (x.length : Int) = a.size
      · have d : ((x.length : Int) != a.size) = false := by simp [hs]
        have nx : Hid (∀ (j : Nat) r x, j < i + 1 → l[j]? = some r → w[j]? = some x → (x.length : Int) = r.size) := ⟨fun j r y hj h1 h2 => by
          by_cases e : j = i
          · subst e; rw [hx] at h1; rw [hy] at h2; cases h1; cases h2; exact hs
          · exact hok.out j r y (by omega) h1 h2⟩
        simp -dsimp [f0, f1, f5, g1, g2, d]
        exact ⟨i + 1, by omega, wrapS (by omega), by omega, nx⟩
      · have d : ((x.length : Int) != a.size) = true := by simp [hs]
        rw [hno.out i a x hx hy hs]
        simp -dsimp [f0, f1, f5, g1, g2, d]
        exact tidy_now rfl ⟨rfl, rfl⟩
    · rw [hyes.out (fun j r x h1 h2 => hok.out j r x (by have := (List.getElem?_eq_some_iff.1 h1).1; omega) h1 h2)]
      simp -dsimp [f0, f1, f5]
      exact tidy_now rfl ⟨rfl, rfl⟩
  · have dlw : ((l.length : Int) != (w.length : Int)) = true := by simp; omega
    simp -dsimp [dlw]
    rw [show E = false by rw [hE, fitsL, decide_eq_false hlw]; rfl]
    exact tidy_now rfl ⟨rfl, rfl⟩
end Go.Proofs
namespace Go.Proofs
open Go.Mu
theorem rg_frzB (l : List Rg) : (l.map Rg.cells).flatten.all AV.frzB = true := by
  rw [List.all_eq_true]
  intro c hc
  obtain ⟨e, he, hce⟩ := List.mem_flatten.1 hc
  obtain ⟨x, _, rfl⟩ := List.mem_map.1 he
  simp only [Rg.cells, List.mem_cons, List.mem_nil_iff, or_false] at hce
  rcases hce with rfl | rfl | rfl | rfl <;> rfl
theorem rgclone_ok (l : List Rg) (hl : l.length ≤ 2^36) (H : List Blk) : ACalls Tryz.prog 63 [Rg.sl l] H (fun e H' => e = .ret (Rg.sl l) ∧ H' = H) := by
  refine acalls_under fun hu _ => acalls_tidy (acalls_weakE (acalls_of_vc (hn := fun d => d == 5 || d == 7) (od := fun _ => none) Tryz.func63 rfl (by kernel_rfl) ?_))
  have fin : ∀ L, WeakE (Tidy H fun e H' => e = AE.ret (Rg.sl l) ∧ H' = H) (.ret (.hs H.length 0 l.length l.length)) (H ++ .row 125 4 (l.map Rg.cells) :: L) := fun L => by
    refine tidy_weak (.refl _) ?_
    refine tidy_give1 hu 4 _ _ (rg_frzB l) ?_ ?_
    · simp [AV.frz, AV.under]
    · have : (AV.hs H.length 0 l.length l.length).frz H.length 4 (l.map Rg.cells) = Rg.sl l := by
        simp [AV.frz]
        exact List.take_of_length_le (by simp)
      rw [this]
      exact ⟨rfl, rfl⟩
  have hl2 : (l.map Rg.cells).length = l.length := by simp
  obtain ⟨T, hT⟩ : ∃ T, T = l.map Rg.cells := ⟨_, rfl⟩
  have hRg : Rg.sl l = .vs 4 T := by rw [hT]
  rw [← hT] at fin hl2
  rw [hRg] at fin ⊢
  rw [← hl2] at fin
  clear hT hRg
  simp -dsimp
  refine slNilW_vs (fun hne => ?_) (fun he => ⟨?_, ?_⟩)
  · simp -dsimp
    refine appendVW_hs (es := []) (by simp) rfl rfl (by rw [hl2]; show (0 + l.length) * 40 ≤ _; omega) (by rw [hl2]; show 0 + l.length ≤ _; omega) ?_
    simp -dsimp
    simpa using fin []
  · simp -dsimp
    subst he
    refine tidy_weak (.nil 4) ?_
    exact tidy_now rfl ⟨rfl, rfl⟩
  · simp -dsimp
    refine appendVW_hs (es := []) (by simp) rfl rfl (by rw [hl2]; show (0 + l.length) * 40 ≤ _; omega) (by rw [hl2]; show 0 + l.length ≤ _; omega) ?_
    simp -dsimp
    simpa using fin []
abbrev GM (H : List Blk) (l : List Rg) (b : List Int) : List Blk := H ++ [byB b, meB l H.length]
theorem gm_at' (H : List Blk) (l : List Rg) {b : List Int} (hb : b.length = 65536) : MemAt (GM H l b) (H.length + 1) H.length l b := ⟨by simp [GM], by simp [GM], hb⟩
theorem gm_set (H : List Blk) (l : List Rg) (b c : List Int) : (GM H l b).set H.length (byB c) = GM H l c := by simp [GM]
theorem mnew_ok (l : List Rg) (hm : mayL l = true) (H : List Blk) : ACalls Tryz.prog 27 [Rg.sl l] H (fun e H' => e = .ret (.tup [.bp (H.length + 1) 0, I 0]) ∧ H' = GM H l zeroB) := by
  refine acalls_of_vc (hn := fun _ => false) (od := fun _ => none) Tryz.func27 rfl (by kernel_rfl) ?_
  have h16 := (mayL_ok hm).1
  have c1 := fun H => mmay_ok l (by omega) H
  rw [hm] at c1
  have c2 := fun H => rgclone_ok l (by omega) H
  have bb := bldBig
  obtain ⟨z, hz⟩ : ∃ z, z = zeroB := ⟨_, rfl⟩
  rw [← hz] at bb ⊢
  have e1 : (z.map (Value.int .u8)).map AV.v = z.map Y := by rw [List.map_map]; rfl
  have e2 : z.map (AV.v ∘ Value.int .u8) = z.map Y := rfl
  clear hz
  simp -dsimp
  refine acallsW_det (c1 _) ?_
  simp -dsimp
  refine acallsW_det (c2 _) ?_
  simp -dsimp [bb]
def fillRow (b : List Int) (a : Nat) (x : List Int) : Nat → List Int
  | 0 => b
  | n + 1 => putW (fillRow b a x n) (a + 8 * n) (x.getD n 0)
def fillTo (z : List Int) (l : List Rg) (w : List (List Int)) : Nat → List Int
  | 0 => z
  | i + 1 => match l[i]?, w[i]? with | some r, some x => fillRow (fillTo z l w i) r.addr.toNat x x.length | _, _ => fillTo z l w i
noncomputable def fillB (l : List Rg) (w : List (List Int)) : List Int := fillTo zeroB l w l.length
theorem fillRow_len (b : List Int) (a : Nat) (x : List Int) : ∀ n, (fillRow b a x n).length = b.length
  | 0 => rfl
  | n + 1 => by rw [fillRow, putW, putTo_len, fillRow_len b a x n]
theorem fillTo_len (z : List Int) (l : List Rg) (w : List (List Int)) : ∀ i, (fillTo z l w i).length = z.length
  | 0 => rfl
  | i + 1 => by
    rw [fillTo]
    split
    · rw [fillRow_len, fillTo_len z l w i]
    · exact fillTo_len z l w i
theorem fillB_len (l : List Rg) (w : List (List Int)) : (fillB l w).length = 65536 := by rw [fillB, fillTo_len, zeroB_len]
theorem mof_ok (l : List Rg) (w : List (List Int)) (hm : mayL l = true) (hf : fitsL l w = true) (H : List Blk) : ACalls Tryz.prog 34 [Rg.sl l, Us.sl w] H (fun e H' => e = .ret (.tup [.bp (H.length + 1) 0, I 0]) ∧ H' = GM H l (fillB l w)) := by
  refine acalls_of_vc (hn := fun _ => false) (od := fun _ => none) Tryz.func34 rfl (by kernel_rfl) ?_
  obtain ⟨h16, hok⟩ := mayL_ok hm
  obtain ⟨hlw, hsz⟩ := fits_at hf
  have c1 := fun H => mnew_ok l hm H
  have dlw : ((w.length : Int) != (l.length : Int)) = false := by simp [hlw]
  have cp := fun (b : List Int) (hb : b.length = 65536) (a : Nat) (ha : a ≤ 65528) (x : Int) => mput_ok (gm_at' H l hb) a ha x
  simp only [gm_set] at cp
  have hlen := fillTo_len zeroB l w
  rw [zeroB_len] at hlen
  have hfin : fillB l w = fillTo zeroB l w l.length := rfl
  have h0 : zeroB = fillTo zeroB l w 0 := rfl
  have hstep : ∀ (i : Nat) r x, l[i]? = some r → w[i]? = some x → fillTo zeroB l w (i + 1) = fillRow (fillTo zeroB l w i) r.addr.toNat x x.length := fun i r x h1 h2 => by rw [fillTo, h1, h2]
  obtain ⟨FT, hFT⟩ : ∃ FT, FT = fillTo zeroB l w := ⟨_, rfl⟩
  rw [← hFT] at hlen hfin hstep
  rw [h0, ← hFT] at c1
  rw [hfin]
  clear hFT hfin h0 hm hf
  have hok := Hid.mk hok
  have hsz := Hid.mk hsz
  have hlen := Hid.mk hlen
  have hstep := Hid.mk hstep
  have hlw := Hid.mk hlw
  simp -dsimp
  refine acallsW_of (c1 _) ?_
  rintro e _ ⟨rfl, rfl⟩
  simp -dsimp [dlw]
  refine loop_rule (hn := fun _ => false) (od := fun _ => none) (fun (i : Nat) f M => GM H l (FT i) = M ∧ f 0 = Rg.sl l ∧ f 6 = .bp (H.length + 1) 0 ∧ f 26 = Us.sl w ∧ f 27 = I w.length ∧ f 28 = I i ∧ i ≤ w.length) (fun i => w.length - i) (by kernel_rfl) 0 (by refine ⟨rfl, by simp, by simp, by simp, by simp, by simp, by omega⟩) ?_
  rintro i f _ ⟨rfl, f0, f6, f26, f27, f28, hi⟩
  simp -dsimp [f0, f6, f26, f27, f28]
  refine condVW_introD (fun hlt => ?_) (fun hlt => ?_)
  · have hlt' : i < w.length := by omega
    have hy := List.getElem?_eq_getElem hlt'
    have hx := List.getElem?_eq_getElem (show i < l.length by rw [hlw.out]; exact hlt')
    obtain ⟨x, hxe⟩ : ∃ x, x = w[i] := ⟨_, rfl⟩
    obtain ⟨a, hae⟩ : ∃ a, a = l[i]'(by rw [hlw.out]; exact hlt') := ⟨_, rfl⟩
    rw [← hae] at hx
    rw [← hxe] at hy
    clear hae hxe
    have g1 : (l.map Rg.cells)[i]? = some [St a.name, I a.addr, I a.size, Bo a.secret] := by rw [List.getElem?_map, hx]; rfl
    have g2 : (w.map fun x => [Wo.sl x])[i]? = some [Wo.sl x] := by rw [List.getElem?_map, hy]; rfl
    have hao := hok.out a (List.mem_of_getElem? hx)
    have hs := hsz.out i a x hx hy
    have ds : ((x.length : Int) != a.size) = false := by simp [hs]
    have hst := hstep.out i a x hx hy
    have b2 := hao.s2
    have b3 := hao.a1
    have b4 := hao.a3
    obtain ⟨p, hp⟩ : ∃ p : Nat, a.addr = p := ⟨a.addr.toNat, by omega⟩
    have hpt : a.addr.toNat = p := by omega
    rw [hpt] at hst
    rw [hp] at g1
    have hFl := hlen.out i
    obtain ⟨b, hb⟩ : ∃ b, b = FT i := ⟨_, rfl⟩
    rw [← hb] at hst hFl ⊢
    have hrl : ∀ n, (fillRow b p x n).length = 65536 := fun n => by rw [fillRow_len, hFl]
    have hr0 : b = fillRow b p x 0 := rfl
    have hrs : ∀ n, fillRow b p x (n + 1) = putW (fillRow b p x n) (p + 8 * n) (x.getD n 0) := fun n => rfl
    obtain ⟨FR, hFR⟩ : ∃ FR, FR = fillRow b p x := ⟨_, rfl⟩
    rw [← hFR] at hst hrl hr0 hrs
    rw [hr0]
    clear hFR hb hr0
    have hst := Hid.mk hst
    have hrl := Hid.mk hrl
    have hrs := Hid.mk hrs
    have hpb : p + 8 * x.length ≤ 49152 := by omega
    have hs := Hid.mk hs
    simp -dsimp [f0, f6, f26, f27, f28, g1, g2, ds]
    refine loop_rule (hn := fun _ => false) (od := fun _ => none) (fun (k : Nat) g M => GM H l (FR k) = M ∧ g 0 = Rg.sl l ∧ g 6 = .bp (H.length + 1) 0 ∧ g 8 = I i ∧ g 26 = Us.sl w ∧ g 27 = I w.length ∧ g 28 = I i ∧ g 41 = Wo.sl x ∧ g 42 = I x.length ∧ g 43 = I k ∧ k ≤ x.length) (fun k => x.length - k) (by kernel_rfl) 0 (by refine ⟨rfl, by simp [f0], by simp [f6], by simp, by simp [f26], by simp [f27], by simp [f28], by simp, by simp, by simp, by omega⟩) ?_
    clear f0 f6 f26 f27 f28 f
    rintro k f _ ⟨rfl, f0, f6, f8, f26, f27, f28, f41, f42, f43, hk⟩
    simp -dsimp [f0, f6, f8, f26, f27, f28, f41, f42, f43]
    refine condVW_introD (fun hlt2 => ?_) (fun hlt2 => ?_)
    · have hlt2' : k < x.length := by omega
      have hv := getD_at (b := x) (i := k) hlt2'
      obtain ⟨v, hve⟩ : ∃ v, v = x.getD k 0 := ⟨_, rfl⟩
      have hn := hrs.out k
      rw [← hve] at hv hn
      clear hve
      obtain ⟨q, hq⟩ : ∃ q, q = p + 8 * k := ⟨_, rfl⟩
      rw [← hq] at hn
      have w1 : IntKind.i64.wrap (8 * (k : Int)) = ((8 * k : Nat) : Int) := by rw [wrapI (by omega) (by omega)]; omega
      have w2 : IntKind.i64.wrap ((p : Int) + ((8 * k : Nat) : Int)) = (q : Int) := by rw [wrapI (by omega) (by omega)]; omega
      have w3 : IntKind.i64.wrap ((p : Int) + (8 : Int) * (k : Int)) = (q : Int) := by rw [wrapI (by omega) (by omega)]; omega
      have cq := cp (FR k) (hrl.out k) q (by omega) v
      have hn := Hid.mk hn
      simp -dsimp [f0, f6, f8, f26, f27, f28, f41, f42, f43, g1, hv, w1, w2, w3]
      refine acallsW_of cq ?_
      rintro e _ ⟨rfl, rfl⟩
      simp -dsimp [f0, f6, f8, f26, f27, f28, f41, f42, f43]
      exact ⟨k + 1, by omega, by rw [hn.out], wrapS (by omega), by omega⟩
    · simp -dsimp [f0, f6, f8, f26, f27, f28, f41, f42, f43]
      obtain rfl : k = x.length := by omega
      exact ⟨i + 1, by omega, by rw [hst.out], wrapS (by omega), by omega⟩
  · simp -dsimp [f0, f6, f26, f27, f28]
    obtain rfl : i = w.length := by omega
    rw [hlw.out]
end Go.Proofs
namespace Go.Proofs
open Go.Mu
theorem rgs_indexF (l : List Rg) (p : Rg → Bool) (g : FuncId) (cap : List AV) (hok : okFn Tryz.prog g = true) (hl : l.length ≤ 2^40) (H : List Blk) (hg : ∀ x ∈ l, ACalls Tryz.prog g (.agg x.cells :: cap) H (fun e H' => e = .ret (Bo (p x)) ∧ H' = H)) :
    ACalls Tryz.prog 122 [.vs 4 (l.map fun x => x.cells), .fn (.func g) [] cap] H (fun e H' => e = .ret (I (idxP p l 0)) ∧ H' = H) := by
  refine acalls_tidy (acalls_of_vc (hn := fun _ => false) (od := fun _ => none) Tryz.func122 rfl (by kernel_rfl) ?_)
  simp -dsimp
  refine loop_rule (hn := fun _ => false) (od := fun _ => none) (fun (i : Nat) f H' => H' = H ∧ f 0 = .vs 4 (l.map fun x => x.cells) ∧ f 1 = .fn (.func g) [] cap ∧ f 7 = I l.length ∧ f 8 = I i ∧ i ≤ l.length ∧ idxP p (l.drop i) i = idxP p l 0) (fun i => l.length - i) (by kernel_rfl) 0 (by simp) ?_
  rintro i f H' ⟨rfl, h0, h1, h7, h8, hi, hinv⟩
  simp -dsimp [h0, h1, h7, h8]
  refine condVW_introD (fun hlt => ?_) (fun hlt => ?_)
  · rw [drop_cons hlt, idxP] at hinv
    have hx := hg l[i] (List.getElem_mem hlt)
    try simp only [Vr.cells, Fc.cells] at hx
    simp -dsimp [h0, h1, h7, h8, List.getElem?_eq_getElem, hlt, hok]
    refine acallsW_det hx ?_
    simp -dsimp
    refine condVW_intro (fun hp => ?_) (fun hp => ?_)
    · simp -dsimp
      rw [if_pos hp] at hinv
      exact tidy_now rfl ⟨by rw [hinv], rfl⟩
    · simp -dsimp [h0, h1, h7, h8]
      rw [if_neg (by simp [hp])] at hinv
      exact ⟨i + 1, by omega, wrapS (by omega), by omega, by simpa using hinv⟩
  · simp -dsimp
    rw [drop_end hlt, idxP] at hinv
    exact tidy_now rfl ⟨by rw [hinv], rfl⟩
def hasA (a : Int) (r : Rg) : Bool := decide (r.addr ≤ a) && decide (a < r.fin)
theorem mhas_ok (a : Int) (r : Rg) (k : Nat) (H : List Blk) (hk : H[k]? = some (.box 3 [I a])) : ACalls Tryz.prog 121 [.agg r.cells, .bp k 0] H (fun e H' => e = .ret (Bo (hasA a r)) ∧ H' = H) := by
  refine acalls_tidy (acalls_of_vc (hn := fun _ => false) (od := fun _ => none) Tryz.func121 rfl (by kernel_rfl) ?_)
  have ce := fun H => mend_ok r H
  obtain ⟨E, hE⟩ : ∃ E, E = hasA a r := ⟨_, rfl⟩
  rw [← hE]
  unfold hasA at hE
  obtain ⟨c1, h1⟩ : ∃ c, c = decide (r.addr ≤ a) := ⟨_, rfl⟩
  obtain ⟨c2, h2⟩ : ∃ c, c = decide (a < r.fin) := ⟨_, rfl⟩
  rw [← h1, ← h2] at hE
  have h1 := h1.symm
  have h2 := h2.symm
  simp only [Rg.cells] at ce
  have hk' := get_app_old hk [.box 125 [St r.name, I r.addr, I r.size, Bo r.secret]]
  simp -dsimp [Rg.cells, hk', h1]
  cases c1
  · simp -dsimp
    rw [show E = false by simp [hE]]
    exact tidy_same rfl ⟨rfl, rfl⟩
  · simp -dsimp [hk']
    refine callDW_intro (ce _) ?_
    simp -dsimp [h2]
    rw [show E = c2 by simp [hE]]
    exact tidy_same rfl ⟨rfl, rfl⟩
def placeN (l : List Rg) (a : Int) : Int := if 65536 ≤ a then -2 else if 49152 ≤ a then -1 else if idxP (hasA a) l 0 < 0 then -2 else idxP (hasA a) l 0
theorem idxP_lt {α : Type} (p : α → Bool) : ∀ (l : List α) (i : Int), 0 ≤ i → -1 ≤ idxP p l i ∧ idxP p l i < i + l.length
  | [], i, h => by simp [idxP]; omega
  | a :: l, i, h => by
    rw [idxP]
    have := idxP_lt p l (i + 1) (by omega)
    split <;> simp <;> omega
theorem mplace_ok {M : List Blk} {k kb : Nat} {lay : List Rg} {b : List Int} (m : MemAt M k kb lay b) (hl : lay.length ≤ 16) (a : Int) (h0 : 0 ≤ a) (h1 : a < 2^64) : ACalls Tryz.prog 100 [.bp k 0, U a] M (fun e M' => (∃ q, e = .ret (.tup [I (placeN lay a), I q])) ∧ M' = M) := by
  refine acalls_tidy (acalls_of_vc (hn := fun _ => false) (od := fun _ => none) Tryz.func100 rfl (by kernel_rfl) ?_)
  have ct := mthere_ok m
  obtain ⟨m1, m2, m3⟩ := m
  obtain ⟨E, hE⟩ : ∃ E, E = placeN lay a := ⟨_, rfl⟩
  rw [← hE]
  unfold placeN at hE
  simp -dsimp
  refine acallsW_det ct ?_
  by_cases h2 : 65536 ≤ a
  · have d : decide (65536 ≤ a) = true := decide_eq_true h2
    rw [if_pos h2] at hE
    subst hE
    simp -dsimp [d]
    exact tidy_now rfl ⟨⟨_, rfl⟩, rfl⟩
  · have d : decide (65536 ≤ a) = false := decide_eq_false h2
    rw [if_neg h2] at hE
    have w1 : IntKind.i64.wrap a = a := wrapI (by omega) (by omega)
    by_cases h3 : 49152 ≤ a
    · have d3 : decide (49152 ≤ a) = true := decide_eq_true h3
      rw [if_pos h3] at hE
      subst hE
      simp -dsimp [d, w1, d3]
      exact tidy_same rfl ⟨⟨_, rfl⟩, rfl⟩
    · have d3 : decide (49152 ≤ a) = false := decide_eq_false h3
      rw [if_neg h3] at hE
      obtain ⟨N, hN⟩ : ∃ N, N = M ++ [Blk.box 3 [I a]] := ⟨_, rfl⟩
      have n1 : N[M.length]? = some (.box 3 [I a]) := by rw [hN]; simp
      have n2 : N[k]? = some (meB lay kb) := by rw [hN]; exact get_app_old m1 _
      have ci := rgs_indexF lay (hasA a) 121 [.bp M.length 0] (by kernel_rfl) (by omega) N (fun x _ => mhas_ok a x M.length N n1)
      simp only [Rg.cells] at ci n2
      have hb := idxP_lt (hasA a) lay 0 (by omega)
      obtain ⟨n, hn⟩ : ∃ n, n = idxP (hasA a) lay 0 := ⟨_, rfl⟩
      rw [← hn] at ci hE hb
      clear hn
      simp -dsimp [d, w1, d3]
      rw [← hN]
      simp -dsimp [n1, n2]
      refine acallsW_det ci ?_
      by_cases h4 : n < 0
      · have d4 : decide (n < 0) = true := decide_eq_true h4
        rw [if_pos h4] at hE
        subst hE
        simp -dsimp [d4]
        rw [hN]
        exact tidy_same rfl ⟨⟨_, rfl⟩, rfl⟩
      · have d4 : decide (n < 0) = false := decide_eq_false h4
        rw [if_neg h4] at hE
        obtain ⟨j, rfl⟩ : ∃ j : Nat, n = j := ⟨n.toNat, by omega⟩
        subst hE
        have hlt : j < lay.length := by omega
        have hx := List.getElem?_eq_getElem hlt
        have hg : (lay.map Rg.cells)[j]? = some [St lay[j].name, I lay[j].addr, I lay[j].size, Bo lay[j].secret] := by rw [List.getElem?_map, hx]; rfl
        simp -dsimp [d4, n1, n2, hg]
        rw [hN]
        exact tidy_same rfl ⟨⟨_, rfl⟩, rfl⟩
def askE (l : List Rg) (a : Int) : Int := if a.tmod 8 = 0 then (if placeN l a = -2 then 14 else 0) else 2
theorem mask_ok {M : List Blk} {k kb : Nat} {lay : List Rg} {b : List Int} (m : MemAt M k kb lay b) (hl : lay.length ≤ 16) (a : Int) (h0 : 0 ≤ a) (h1 : a < 2^64) : ACalls Tryz.prog 64 [.bp k 0, U a, U 8] M (fun e M' => e = .ret (I (askE lay a)) ∧ M' = M) := by
  refine acalls_of_vc (hn := fun _ => false) (od := fun _ => none) Tryz.func64 rfl (by kernel_rfl) ?_
  have ct := mthere_ok m
  have cp := mplace_ok m hl a h0 h1
  obtain ⟨E, hE⟩ : ∃ E, E = askE lay a := ⟨_, rfl⟩
  rw [← hE]
  unfold askE at hE
  obtain ⟨n, hn⟩ : ∃ n, n = placeN lay a := ⟨_, rfl⟩
  rw [← hn] at cp hE
  clear hn
  simp -dsimp
  refine acallsW_det ct ?_
  by_cases h8 : a.tmod 8 = 0
  · have d8 : (a.tmod 8 != 0) = false := by simp [h8]
    rw [if_pos h8] at hE
    simp -dsimp [d8]
    refine acallsW_of cp ?_
    rintro e _ ⟨⟨q, rfl⟩, rfl⟩
    by_cases h2 : n = -2
    · have d2 : (n == -2) = true := by simp [h2]
      rw [if_pos h2] at hE
      subst hE
      simp -dsimp [d2]
    · have d2 : (n == -2) = false := by simp [h2]
      rw [if_neg h2] at hE
      subst hE
      simp -dsimp [d2]
  · have d8 : (a.tmod 8 != 0) = true := by simp [h8]
    rw [if_neg h8] at hE
    subst hE
    simp -dsimp [d8]
theorem ask_low {l : List Rg} (hl : ∀ r ∈ l, r.Ok) {a : Int} (h0 : 0 ≤ a) (h : askE l a = 0) : a ≤ 65528 := by
  unfold askE at h
  split at h
  · rename_i h8
    split at h
    · omega
    · rename_i hp
      unfold placeN at hp
      have : ¬ 65536 ≤ a := fun e => by rw [if_pos e] at hp; exact hp rfl
      have h9 : a % 8 = 0 := by rw [Int.tmod_eq_emod_of_nonneg h0] at h8; exact h8
      omega
  · omega
theorem mload_ok {M : List Blk} {k kb : Nat} {lay : List Rg} {b : List Int} (m : MemAt M k kb lay b) (hl : lay.length ≤ 16) (ho : ∀ r ∈ lay, r.Ok) (a : Int) (h0 : 0 ≤ a) (h1 : a < 2^64) :
    ACalls Tryz.prog 33 [.bp k 0, U a] M (fun e M' => e = .ret (.tup [U (if askE lay a = 0 then getW b a.toNat else 0), I (askE lay a)]) ∧ M' = M) := by
  refine acalls_of_vc (hn := fun _ => false) (od := fun _ => none) Tryz.func33 rfl (by kernel_rfl) ?_
  have ca := mask_ok m hl a h0 h1
  have hlow := ask_low ho h0
  obtain ⟨n, hn⟩ : ∃ n, n = askE lay a := ⟨_, rfl⟩
  rw [← hn] at ca hlow ⊢
  clear hn
  simp -dsimp
  refine acallsW_det ca ?_
  by_cases h : n = 0
  · subst h
    have hlow := hlow rfl
    obtain ⟨p, rfl⟩ : ∃ p : Nat, a = p := ⟨a.toNat, by omega⟩
    have w1 : IntKind.i64.wrap (p : Int) = p := wrapI (by omega) (by omega)
    have cg := mget_ok m p (by omega)
    simp -dsimp [w1]
    refine acallsW_det cg ?_
    simp -dsimp
  · have d : (n != 0) = true := by simp [h]
    simp -dsimp [d, h]
theorem mstore_ok {M : List Blk} {k kb : Nat} {lay : List Rg} {b : List Int} (m : MemAt M k kb lay b) (hl : lay.length ≤ 16) (ho : ∀ r ∈ lay, r.Ok) (a : Int) (h0 : 0 ≤ a) (h1 : a < 2^64) (x : Int) :
    ACalls Tryz.prog 102 [.bp k 0, U a, U x] M (fun e M' => e = .ret (I (askE lay a)) ∧ M' = M.set kb (byB (if askE lay a = 0 then putW b a.toNat x else b))) := by
  refine acalls_of_vc (hn := fun _ => false) (od := fun _ => none) Tryz.func102 rfl (by kernel_rfl) ?_
  have ca := mask_ok m hl a h0 h1
  have hlow := ask_low ho h0
  have hself := setSelf m.bytes
  obtain ⟨n, hn⟩ : ∃ n, n = askE lay a := ⟨_, rfl⟩
  rw [← hn] at ca hlow ⊢
  clear hn
  simp -dsimp
  refine acallsW_det ca ?_
  by_cases h : n = 0
  · subst h
    have hlow := hlow rfl
    obtain ⟨p, rfl⟩ : ∃ p : Nat, a = p := ⟨a.toNat, by omega⟩
    have w1 : IntKind.i64.wrap (p : Int) = p := wrapI (by omega) (by omega)
    have cg := mput_ok m p (by omega) x
    simp -dsimp [w1]
    refine acallsW_of cg ?_
    rintro e _ ⟨rfl, rfl⟩
    simp -dsimp
  · have d : (n == 0) = false := by simp [h]
    simp -dsimp [d, h]
    exact hself.symm
end Go.Proofs
