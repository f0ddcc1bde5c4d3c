/- A region whose order of evaluation is drawn, in which two operations that change something may come in either order. -/
import Derived.Test.YtklgcajfkkoacaaGreatFwQtoFwT
import Derived.Test.YtklgcajfkkoacaaGreatFS5toCW6
set_option linter.unusedVariables false
set_option linter.unusedSimpArgs false
set_option maxHeartbeats 4000000
set_option maxRecDepth 100000
namespace Go.Mu
section
variable {P : Program} {n : Nat} {pu : Nat → Bool} {ops : Array Oper} {Q : AQ}
structure Fork where
  pre : List Nat
  (i j : Nat)
  (li lj : List Nat)
  (pi pj : OPlan)
variable {hn : Nat → Bool}
end
end Go.Mu
namespace Go.Mu
open Go.RowKit (Below)
section
variable {P : Program}
end
end Go.Mu
namespace Go.Mu
open Go.RowKit (Below)
section
variable {P : Program} {n : Nat} {c : Code} {Q : AQ}
theorem awp_give {f : Fr} {H : List Blk} (k sz : Nat) (t : TypeId) (es : List (List AV)) (hk : H[k]? = some (.row t sz es)) (hz : es.flatten.all AV.frzB = true)
    (h : AWP P n c Q (fun t => (f t).frz k sz es) (frzH k sz es H) []) : AWP P n c Q f H [] := by
  intro ro hro B w0 cx0 cx a h1 h2 h3 h4 h5
  subst h3
  refine h ro hro B w0 cx0 (cx.frz k sz es) a (hrel_frz h1 hk hz) (h2.trans (le_frz hk)) rfl ⟨h4.1, fun t ht => rep_frz h1 hk hz (h4.2 t ht)⟩ ?_
  cases hd : a.defers with
  | nil => trivial
  | cons d l => rw [hd] at h5; exact h5.elim
theorem awp_weak {f f' : Fr} {H : List Blk} (hw : ∀ t, Weak (f t) (f' t)) (h : AWP P n c Q f' H []) : AWP P n c Q f H [] := by
  intro ro hro B w0 cx0 cx a h1 h2 h3 h4 h5
  exact h ro hro B w0 cx0 cx a h1 h2 h3 ⟨h4.1, fun t ht => (h4.2 t ht).weakens (hw t)⟩ h5
end
end Go.Mu
namespace Go.Mu
open Go.RowKit (Below)
section
variable {P : Program} {n : Nat} {c : Code} {Q : AQ}
end
end Go.Mu
namespace Go.Mu
inductive FT where
  | lin (p : OPlan)
  | fork (pre : List Nat) (ats : FT)
  | alt (i : Nat) (late : List Nat) (t more : FT)
  | none
section
variable {P : Program} {n : Nat} {pu : Nat → Bool} {ops : Array Oper} {Q : AQ}
variable {hn : Nat → Bool}
end
end Go.Mu
namespace Go.Mu
open Go.RowKit (Below)
section
variable {P : Program} {n : Nat} {Q : AQ}
theorem awp_giveRow {c : Code} {f : Fr} {N L : List Blk} (hu : underH N.length N = true) (j sz : Nat) (t : TypeId) (es : List (List AV)) (hj : L[j]? = some (.row t sz es)) (hz : es.flatten.all AV.frzB = true)
    (h : ∀ L' f', (∀ s, f' s = (f s).frz (N.length + j) sz es) → L'.length = L.length → (∀ i x, i ≠ j → L[i]? = some x → x.under N.length = true → L'[i]? = some x) → AWP P n c Q f' (N ++ L') []) : AWP P n c Q f (N ++ L) [] := by
  refine awp_give (N.length + j) sz t es (by rw [List.getElem?_append_right (by omega)]; simpa using hj) hz ?_
  rw [frzH_app j hu]
  refine h _ _ (fun _ => rfl) (by simp) ?_
  intro i x hij hx hux
  rw [List.getElem?_set_ne (Ne.symm hij), List.getElem?_map, hx]
  simp only [Option.map_some]
  rw [frzB_id (Nat.le_add_right _ _) x hux]
def M2 (H : List Blk) (c : Nat) (X o t : Blk) (L : List Blk) : List Blk := H.set c X ++ o :: t :: L
variable {H : List Blk} {c : Nat}
end
end Go.Mu
namespace Go.Mu
def hrow (h : Option Nat) (n : Nat) : AV := match h with | none => .v (.slice none 0 0) | some k => .hs k 0 n n
def cutS (h : Option Nat) (m n : Nat) : AV := match h with | none => .v (.slice none 0 0) | some k => .hs k 0 m n
theorem cutS_all (h : Option Nat) (n : Nat) : cutS h n n = hrow h n := by cases h <;> rfl
structure RowAt' (t : TypeId) (sz : Nat) (M : List Blk) (h : Option Nat) (es : List (List AV)) : Prop where
  row : ∀ k, h = some k → M[k]? = some (.row t sz es)
  nil : h = none → es = []
structure Own (t : TypeId) (sz : Nat) (B M : List Blk) (h : Option Nat) (es : List (List AV)) : Prop where
  pre : ∃ L, M = B ++ L
  row : ∀ k, h = some k → M[k]? = some (.row t sz es)
  nil : h = none → es = []
  new : ∀ k, h = some k → B.length ≤ k
variable {t sz n : Nat} {B M : List Blk} {h : Option Nat} {es : List (List AV)}
theorem Own.nil0 (t sz : Nat) (B L : List Blk) : Own t sz B (B ++ L) none [] := ⟨⟨L, rfl⟩, fun _ h => (by cases h), fun _ => rfl, fun _ h => (by cases h)⟩
theorem Own.nil1 (t sz : Nat) (B : List Blk) : Own t sz B B none [] := ⟨⟨[], by simp⟩, fun _ h => (by cases h), fun _ => rfl, fun _ h => (by cases h)⟩
theorem Own.app (o : Own t sz B M h es) (L : List Blk) : Own t sz B (M ++ L) h es := by
  obtain ⟨⟨L0, rfl⟩, r, nl, nw⟩ := o
  exact ⟨⟨L0 ++ L, by simp⟩, fun k hk => by have := r k hk; rw [List.getElem?_append_left (List.getElem?_eq_some_iff.1 this).1]; exact this, nl, nw⟩
theorem Own.old (o : Own t sz B M h es) {i : Nat} {b : Blk} (hb : B[i]? = some b) : M[i]? = some b := by
  obtain ⟨L, rfl⟩ := o.pre
  rw [List.getElem?_append_left (List.getElem?_eq_some_iff.1 hb).1]; exact hb
theorem Own.less {B0 B1 : List Blk} (o : Own t sz (B0 ++ B1) M h es) : Own t sz B0 M h es := by
  obtain ⟨⟨L, rfl⟩, r, nl, nw⟩ := o
  exact ⟨⟨B1 ++ L, by simp⟩, r, nl, fun k hk => by have := nw k hk; simp at this; omega⟩
structure Stp (M M' : List Blk) (h h' : Option Nat) : Prop where
  len : M.length ≤ M'.length
  get : ∀ i, i < M.length → h ≠ some i → M'[i]? = M[i]?
  new : h' = h ∨ ∃ i, h' = .some i ∧ M.length ≤ i
theorem Stp.refl (M : List Blk) (h : Option Nat) : Stp M M h h := ⟨Nat.le_refl _, fun _ _ _ => rfl, .inl rfl⟩
theorem Stp.app (M L : List Blk) (h : Option Nat) : Stp M (M ++ L) h h := ⟨by simp, fun i hi _ => List.getElem?_append_left hi, .inl rfl⟩
theorem Stp.trans {M1 M2 M3 : List Blk} {h1 h2 h3 : Option Nat} (a : Stp M1 M2 h1 h2) (b : Stp M2 M3 h2 h3) : Stp M1 M3 h1 h3 := by
  refine ⟨Nat.le_trans a.len b.len, fun i hi hn => ?_, ?_⟩
  · rw [b.get i (Nat.lt_of_lt_of_le hi a.len) ?_, a.get i hi hn]
    rcases a.new with e | ⟨j, e, hj⟩
    · rw [e]; exact hn
    · rw [e]; intro q; cases q; omega
  · rcases b.new with e | ⟨j, e, hj⟩
    · rw [e]
      rcases a.new with e | ⟨j, e, hj⟩
      · exact .inl e
      · exact .inr ⟨j, e, hj⟩
    · exact .inr ⟨j, e, Nat.le_trans a.len hj⟩
theorem Stp.old {M M' : List Blk} {h h' : Option Nat} (a : Stp M M' h h') {i : Nat} {b : Blk} (hi : M[i]? = .some b) (hn : h ≠ .some i) : M'[i]? = .some b := by rw [a.get i (List.getElem?_eq_some_iff.1 hi).1 hn]; exact hi
theorem ext_pre {B M : List Blk} (hl : B.length ≤ M.length) (hg : ∀ i, i < B.length → M[i]? = B[i]?) : ∃ L, M = B ++ L := by
  refine ⟨M.drop B.length, ?_⟩
  apply List.ext_getElem?
  intro i
  by_cases hi : i < B.length
  · rw [List.getElem?_append_left hi]; exact hg i hi
  · rw [List.getElem?_append_right (by omega), List.getElem?_drop]; congr 1; omega
theorem Own.step {M' : List Blk} {h' : Option Nat} {es' : List (List AV)} (o : Own t sz B M h es) (r : RowAt' t sz M' h' es') (s : Stp M M' h h') : Own t sz B M' h' es' := by
  obtain ⟨⟨L, rfl⟩, _, _, nw⟩ := o
  refine ⟨ext_pre (by have := s.len; simp at this; omega) (fun i hi => ?_), r.row, r.nil, fun k hk => ?_⟩
  · rw [s.get i (by simp; omega) (fun e => by have := nw i e; omega), List.getElem?_append_left hi]
  · rcases s.new with e | ⟨i, e, hi⟩
    · exact nw k (e ▸ hk)
    · rw [e] at hk; cases hk; simp at hi; omega
theorem Own.at' (o : Own t sz B M h es) : RowAt' t sz M h es := ⟨o.row, o.nil⟩
theorem app_at {ys : List (List AV)} {sl : TypeId × Nat × List Value × Nat} {K : AV → List Blk → Prop} {w : Wit K} (hr : RowAt' t sz M h es) (hn : n = es.length) (h1 : sl.1 = t) (h2 : sl.2.1 = sz) (hb : (es.length + ys.length) * sl.2.2.2 ≤ 140737488355328) (h63 : es.length + ys.length ≤ 9223372036854775807)
    (k : ∀ h' M', RowAt' t sz M' h' (es ++ ys) → Stp M M' h h' → K (hrow h' (es ++ ys).length) M') : appendVW M sl (hrow h n) ys K w := by
  subst hn
  obtain ⟨s1, s2, s3, s4⟩ := sl
  simp only at h1 h2 hb
  subst h1 h2
  cases h with
  | none =>
    have := hr.nil rfl
    subst this
    simp only [List.length_nil, Nat.zero_add] at hb
    simp only [hrow]
    refine appendVW_nil (by simpa using hb) (by simp at h63 ⊢; omega) (fun hy => ?_) (fun hy => ?_)
    · subst hy
      exact k none M ⟨fun _ h => (by cases h), fun _ => rfl⟩ (.refl _ _)
    · have := k (.some M.length) (M ++ [.row s1 s2 ys]) ⟨fun k hk => (by cases hk; simp), fun h => (by cases h)⟩ ⟨by simp, fun i hi _ => List.getElem?_append_left hi, .inr ⟨_, rfl, Nat.le_refl _⟩⟩
      simpa [hrow] using this
  | some i =>
    have q3 := hr.row i rfl
    have hil := (List.getElem?_eq_some_iff.1 q3).1
    simp only [hrow]
    refine appendVW_hs (es := es) q3 rfl rfl (by simpa using hb) h63 ?_
    have := k (.some i) (M.set i (.row s1 s2 (es ++ ys))) ⟨fun k hk => (by cases hk; simp [hil]), fun h => (by cases h)⟩ ⟨by simp, fun j hj hne => by rw [List.getElem?_set_ne (fun e => hne (by rw [e]))], .inl rfl⟩
    simpa [hrow] using this
theorem app_own {ys : List (List AV)} {sl : TypeId × Nat × List Value × Nat} {K : AV → List Blk → Prop} {w : Wit K} (o : Own t sz B M h es) (hn : n = es.length) (h1 : sl.1 = t) (h2 : sl.2.1 = sz) (hb : (es.length + ys.length) * sl.2.2.2 ≤ 140737488355328) (h63 : es.length + ys.length ≤ 9223372036854775807)
    (k : ∀ h' M', Own t sz B M' h' (es ++ ys) → Stp M M' h h' → K (hrow h' (es ++ ys).length) M') : appendVW M sl (hrow h n) ys K w :=
  app_at o.at' hn h1 h2 hb h63 fun h' M' r s => k h' M' (o.step r s) s
theorem tidy_giveC {H L : List Blk} {R : AE → List Blk → Prop} {f : AV → AV} {m : Nat} (hu : underH H.length H = true) (o : Own t sz H (H ++ L) h es) (hz : es.flatten.all AV.frzB = true)
    (hf : ∀ k, h = .some k → (f (.hs k 0 m es.length)).frz k sz es = f (.vs sz (es.take m)))
    (k : ∀ x L', Gv sz (es.take m) x → L'.length = L.length → (∀ i b, h ≠ .some i → (H ++ L)[i]? = .some b → b.under H.length = true → (H ++ L')[i]? = .some b) → Tidy H R (.ret (f x)) (H ++ L')) : Tidy H R (.ret (f (cutS h m es.length))) (H ++ L) := by
  cases h with
  | none =>
    have := o.nil rfl
    subst this
    refine k _ L (.inl ⟨rfl, by simp⟩) rfl fun i b _ hb _ => hb
  | some j =>
    obtain ⟨q, rfl⟩ : ∃ q, j = H.length + q := ⟨j - H.length, by have := o.new j rfl; omega⟩
    have hj := o.row _ rfl
    rw [List.getElem?_append_right (by omega), Nat.add_sub_cancel_left] at hj
    refine tidy_give hu q sz t es hj hz ?_
    show Tidy H R (.ret ((f (.hs (H.length + q) 0 m es.length)).frz (H.length + q) sz es)) _
    rw [hf _ rfl]
    refine k _ _ (.inr rfl) (by simp) fun i b hi hb hbu => ?_
    by_cases hil : i < H.length
    · rw [List.getElem?_append_left hil] at hb ⊢; exact hb
    · rw [List.getElem?_append_right (by omega)] at hb ⊢
      rw [List.getElem?_set_ne (fun e => hi (by rw [show i = H.length + q by omega])), List.getElem?_map, hb]
      simp only [Option.map_some, frzB_id (Nat.le_add_right _ _) b hbu]
theorem tidy_row1 {H : List Blk} {R : AE → List Blk → Prop} {m n : Nat} (hu : underH H.length H = true) (o : Own t sz H M h es) (hz : es.flatten.all AV.frzB = true) (hn : n = es.length) (hR : R (.ret (.vs sz (es.take m))) H) : Tidy H (WeakE R) (.ret (cutS h m n)) M := by
  subst hn
  obtain ⟨L, rfl⟩ := o.pre
  refine tidy_giveC (f := fun x => x) hu o hz (fun k hk => by simp [AV.frz]) fun x L' hx _ _ => ?_
  exact tidy_same (hx.under _) ⟨_, hx.weak, hR⟩
theorem tidy_rowA {H : List Blk} {R : AE → List Blk → Prop} {n : Nat} (hu : underH H.length H = true) (o : Own t sz H M h es) (hz : es.flatten.all AV.frzB = true) (hn : n = es.length) (hR : R (.ret (.vs sz es)) H) : Tidy H (WeakE R) (.ret (hrow h n)) M := by
  rw [← cutS_all]
  exact tidy_row1 hu o hz hn (by subst hn; rw [List.take_of_length_le (by omega)]; exact hR)
theorem tidy_rowAV {H : List Blk} {R : AE → List Blk → Prop} {n : Nat} {y : Value} (hu : underH H.length H = true) (o : Own t sz H M h es) (hz : es.flatten.all AV.frzB = true) (hn : n = es.length) (hR : R (.ret (.tup [.vs sz es, .v y])) H) : Tidy H (WeakE R) (.ret (.tup [hrow h n, .v y])) M := by
  subst hn
  obtain ⟨L, rfl⟩ := o.pre
  have := tidy_giveC (R := WeakE R) (f := fun x => .tup [x, .v y]) (m := es.length) hu o hz (fun k hk => by simp [AV.frz, frzL]) fun x L' hx _ _ => ?_
  · rw [cutS_all] at this; exact this
  · rw [List.take_of_length_le (by omega)] at hx
    exact tidy_same (by simp [AV.under, underL, hx.under]) ⟨_, .tupL (.cons hx.weak (.cons (.refl _) .nil)), hR⟩
theorem tidy_row2 {H : List Blk} {R : AE → List Blk → Prop} {h2 : Option Nat} {es2 : List (List AV)} {t2 sz2 m1 m2 n1 n2 : Nat} (hu : underH H.length H = true) (o : Own t sz H M h es) (o2 : Own t2 sz2 H M h2 es2) (hz : es.flatten.all AV.frzB = true) (hz2 : es2.flatten.all AV.frzB = true)
    (hne : ∀ k, h = .some k → h2 ≠ .some k) (hn1 : n1 = es.length) (hn2 : n2 = es2.length) (hR : R (.ret (.tup [.vs sz (es.take m1), .vs sz2 (es2.take m2)])) H) : Tidy H (WeakE R) (.ret (.tup [cutS h m1 n1, cutS h2 m2 n2])) M := by
  subst hn1 hn2
  obtain ⟨L, rfl⟩ := o.pre
  refine tidy_giveC (f := fun x => .tup [x, cutS h2 m2 es2.length]) hu o hz (fun k hk => ?_) fun x L' hx hl hg => ?_
  · have : (cutS h2 m2 es2.length).frz k sz es = cutS h2 m2 es2.length := by
      cases h2 with
      | none => rfl
      | some j => simp only [cutS, AV.frz]; rw [if_neg]; rintro ⟨e, _⟩; exact hne k hk (by rw [e])
    simp only [AV.frz, frzL, this]; simp
  · have o2' : Own t2 sz2 H (H ++ L') h2 es2 := ⟨⟨L', rfl⟩, fun k hk => hg k _ (fun e => hne k e hk) (o2.row k hk) (by
        have hz' := hz2
        rw [List.all_eq_true] at hz'
        simp only [Blk.under, List.all_eq_true]
        intro e he
        exact underL_frzB _ e (fun c hc => hz' c (List.mem_flatten.2 ⟨e, he, hc⟩))), o2.nil, o2.new⟩
    refine tidy_giveC (f := fun y => .tup [x, y]) hu o2' hz2 (fun k hk => ?_) fun y L2 hy _ _ => ?_
    · simp [AV.frz, frzL, hx.frz]
    · exact tidy_same (by simp [AV.under, underL, hx.under, hy.under]) ⟨_, .tupL (.cons hx.weak (.cons hy.weak .nil)), hR⟩
end Go.Mu
namespace Go.Mu
theorem awp_scope_r {P : Program} {n : Nat} {c : Code} {rs : List ResultVar} {R : AE → List Blk → Prop} {f : Fr} {H : List Blk} {ds : List ADef} (h : AWP P n c (retQ P rs R) f H ds) : AWP P n (.scope c) (retQ P rs R) f H ds := by
  refine awp_scope ?_
  refine Eq.mpr (congrArg (fun Q => AWP P n c Q f H ds) (a₂ := retQ P rs R) ?_) h
  funext x f H ds
  cases x <;> rfl
end Go.Mu
namespace Go.Mu
theorem astore_one {M : List Blk} {k t sz i n : Nat} {es : List (List AV)} {c x : AV} (hr : M[k]? = some (.row t sz es)) (hn : es.length = n) (hi : es[i]? = some [c]) : astore M (.rp k n i 0) [x] = some (M.set k (.row t sz (es.set i [x]))) := by
  subst hn
  simp [astore, hr, hi, spl]
end Go.Mu
namespace Go.Mu
theorem awp_giveX {P : Program} {n : Nat} {Q : AQ} {c : Code} {f : Fr} {N M : List Blk} {h : Option Nat} {t sz m : Nat} {es : List (List AV)} (s0 : Nat) (hu : underH N.length N = true) (o : Own t sz N M h es) (hz : es.flatten.all AV.frzB = true) (hs : f s0 = hrow h m) (hm : m = es.length)
    (k : ∀ M' f', f' s0 = .vs sz es → (∃ L, M' = N ++ L) → (∀ s, s ≠ s0 → (∀ j, h = some j → N.length ≤ j → (f s).frz j sz es = f s) → f' s = f s) → (∀ i b, h ≠ some i → M[i]? = some b → b.under N.length = true → M'[i]? = some b) → AWP P n c Q f' M' []) : AWP P n c Q f M [] := by
  subst hm
  cases h with
  | none =>
    have := o.nil rfl
    subst this
    refine awp_weak (f' := fun s => if s = s0 then .vs sz [] else f s) (fun s => ?_) (k M _ (if_pos rfl) o.pre (fun s hne _ => if_neg hne) (fun i b _ hb _ => hb))
    by_cases e : s = s0
    · subst e; simp only [if_true]; rw [hs]; exact .nil sz
    · simp only [e, if_false]; exact .refl _
  | some j =>
    obtain ⟨L, rfl⟩ := o.pre
    obtain ⟨q, rfl⟩ : ∃ q, j = N.length + q := ⟨j - N.length, by have := o.new j rfl; omega⟩
    have hj := o.row _ rfl
    rw [List.getElem?_append_right (by omega), Nat.add_sub_cancel_left] at hj
    refine awp_giveRow hu q sz t es hj hz fun L' f' hf hl hg => ?_
    refine k _ f' (by rw [hf, hs]; simp [hrow, AV.frz]) ⟨_, rfl⟩ (fun s _ hus => by rw [hf]; exact hus _ rfl (by omega)) (fun i b hi hb hbu => ?_)
    by_cases hil : i < N.length
    · rw [List.getElem?_append_left hil] at hb ⊢; exact hb
    · rw [List.getElem?_append_right (by omega)] at hb ⊢
      exact hg _ _ (fun e => hi (by rw [show i = N.length + q by omega])) hb hbu
theorem awp_giveH {P : Program} {n : Nat} {Q : AQ} {c : Code} {f : Fr} {N M : List Blk} {h : Option Nat} {t sz m : Nat} {es : List (List AV)} (s0 : Nat) (hu : underH N.length N = true) (o : Own t sz N M h es) (hz : es.flatten.all AV.frzB = true) (hs : f s0 = hrow h m) (hm : m = es.length)
    (k : ∀ M' f', f' s0 = .vs sz es → (∃ L, M' = N ++ L) → (∀ s, s ≠ s0 → (f s).under N.length = true → f' s = f s) → (∀ i b, h ≠ some i → M[i]? = some b → b.under N.length = true → M'[i]? = some b) → AWP P n c Q f' M' []) : AWP P n c Q f M [] :=
  awp_giveX s0 hu o hz hs hm fun M' f' a b c' d => k M' f' a b (fun s hne hus => c' s hne fun j _ hj => frz_id hj _ hus) d
theorem frz_hrow_ne {h2 : Option Nat} {k sz n : Nat} {es : List (List AV)} (hne : h2 ≠ some k) : (hrow h2 n).frz k sz es = hrow h2 n := by
  cases h2 with
  | none => rfl
  | some j => simp only [hrow, AV.frz]; rw [if_neg]; rintro ⟨e, _⟩; exact hne (by rw [e])
theorem awp_give2 {P : Program} {n : Nat} {Q : AQ} {c : Code} {f : Fr} {N M : List Blk} {h h2 : Option Nat} {t sz m t2 sz2 m2 : Nat} {es es2 : List (List AV)} (s1 s2 : Nat) (hss : s1 ≠ s2) (hu : underH N.length N = true) (o : Own t sz N M h es) (o2 : Own t2 sz2 N M h2 es2) (hne : ∀ k, h = some k → h2 ≠ some k)
    (hz : es.flatten.all AV.frzB = true) (hz2 : es2.flatten.all AV.frzB = true) (hs : f s1 = hrow h m) (hm : m = es.length) (hs2 : f s2 = hrow h2 m2) (hm2 : m2 = es2.length)
    (k : ∀ M' f', f' s1 = .vs sz es → f' s2 = .vs sz2 es2 → (∃ L, M' = N ++ L) → (∀ s, s ≠ s1 → s ≠ s2 → (f s).under N.length = true → f' s = f s) → AWP P n c Q f' M' []) : AWP P n c Q f M [] := by
  refine awp_giveX s1 hu o hz hs hm fun M' f' a b c' d => ?_
  have e2 : f' s2 = hrow h2 m2 := by rw [c' s2 hss.symm fun j hj _ => by rw [hs2]; exact frz_hrow_ne (hne j hj), hs2]
  have o2' : Own t2 sz2 N M' h2 es2 := ⟨b, fun j hj => d j _ (fun e => hne j e hj) (o2.row j hj) (by
    have hz' := hz2
    rw [List.all_eq_true] at hz'
    simp only [Blk.under, List.all_eq_true]
    intro e he
    exact underL_frzB _ e (fun c hc => hz' c (List.mem_flatten.2 ⟨e, he, hc⟩))), o2.nil, o2.new⟩
  refine awp_giveX s2 hu o2' hz2 e2 hm2 fun M2 f2 a2 b2 c2 _ => ?_
  have e1 : f2 s1 = .vs sz es := by rw [c2 s1 hss fun j _ _ => by rw [a]; rfl, a]
  refine k M2 f2 e1 a2 b2 fun s hn1 hn2 hus => ?_
  have q1 := c' s hn1 fun j _ hj => frz_id hj _ hus
  rw [c2 s hn2 fun j _ hj => by rw [q1]; exact frz_id hj _ hus, q1]
end Go.Mu
namespace Go.Mu
end Go.Mu
namespace Go.Proofs
open Go.Mu
abbrev OwnI (B M : List Blk) (h : Option Nat) (l : List Int) : Prop := Own 3 1 B M h (l.map fun n => [I n])
abbrev AtI (M : List Blk) (h : Option Nat) (l : List Int) : Prop := RowAt' 3 1 M h (l.map fun n => [I n])
theorem map_len (l : List Int) : (l.map fun n => [I n]).length = l.length := by simp
theorem compRow_take (l : List Int) : (compRow l).take (Lib.compact l).length = Lib.compact l := by unfold compRow; simp
theorem isort_h (l : List Int) (hl : l.length ≤ 2^40) (h : Option Nat) (M : List Blk) (hr : AtI M h l) : ACalls Tryz.prog 106 [hrow h l.length] M (fun e M' => e = .ret (.tup []) ∧ AtI M' h (sortI l) ∧ Stp M M' h h) := by
  cases h with
  | none =>
    have : l = [] := List.map_eq_nil_iff.1 (hr.nil rfl)
    subst this
    refine (isorts0_ok M).mono ?_
    rintro e M' ⟨rfl, rfl⟩
    exact ⟨rfl, ⟨fun _ h => (by cases h), fun _ => by unfold sortI; simp⟩, .refl _ _⟩
  | some k =>
    have q := hr.row k rfl
    have hkl := lt_of_get q
    refine (isorts_ok l hl k M q).mono ?_
    rintro e M' ⟨rfl, rfl⟩
    exact ⟨rfl, ⟨fun j hj => by cases hj; simp [hkl], fun h => by cases h⟩, ⟨by simp, fun j hj hne => by rw [List.getElem?_set_ne (fun e => hne (by rw [e]))], .inl rfl⟩⟩
theorem icompact_h (l : List Int) (hl : l.length ≤ 2^40) (h : Option Nat) (M : List Blk) (hr : AtI M h l) : ACalls Tryz.prog 107 [hrow h l.length] M (fun e M' => e = .ret (cutS h (Lib.compact l).length l.length) ∧ AtI M' h (compRow l) ∧ Stp M M' h h) := by
  cases h with
  | none =>
    have : l = [] := List.map_eq_nil_iff.1 (hr.nil rfl)
    subst this
    refine (icompact0_ok M).mono ?_
    rintro e M' ⟨rfl, rfl⟩
    exact ⟨rfl, ⟨fun _ h => (by cases h), fun _ => by simp [compRow, Lib.compact, Lib.compactUpTo]⟩, .refl _ _⟩
  | some k =>
    have q := hr.row k rfl
    have hkl := lt_of_get q
    refine (icompact_ok l hl k M q).mono ?_
    rintro e M' ⟨rfl, rfl⟩
    exact ⟨rfl, ⟨fun j hj => by cases hj; simp [hkl], fun h => by cases h⟩, ⟨by simp, fun j hj hne => by rw [List.getElem?_set_ne (fun e => hne (by rw [e]))], .inl rfl⟩⟩
structure Two (B M : List Blk) (h hd : Option Nat) (u d : List Int) : Prop where
  own : OwnI B M h u
  dwn : OwnI B M hd d
  ne : ∀ k, h = some k → hd ≠ some k
theorem Two.step {B M M' : List Blk} {h hd : Option Nat} {u d u' : List Int} (t : Two B M h hd u d) (r : AtI M' h u') (s : Stp M M' h h) : Two B M' h hd u' d := by
  have o := t.own.step r s
  refine ⟨o, ⟨o.pre, fun k hk => s.old (t.dwn.row k hk) (fun e => t.ne k e hk), t.dwn.nil, t.dwn.new⟩, t.ne⟩
def UsesI (x : Line) (B : List Blk) (f : Fr) (M : List Blk) : Prop := ∃ h hd, f 4 = hrow h x.raw.length ∧ f 3 = hrow hd x.defs.length ∧ Two B M h hd x.raw x.defs
theorem two_nn {B L : List Blk} : Two B (B ++ L) none none [] [] := ⟨.nil0 _ _ _ _, .nil0 _ _ _ _, fun _ h => by cases h⟩
theorem two_sn {B : List Blk} {u : List Int} : Two B (B ++ [.row 3 1 (u.map fun n => [I n])]) (some B.length) none u [] :=
  ⟨⟨⟨_, rfl⟩, fun k hk => by cases hk; simp, fun h => by (cases h), fun k hk => by cases hk; exact Nat.le_refl _⟩, .nil0 _ _ _ _, fun _ _ h => by cases h⟩
theorem two_ns {B : List Blk} {d : List Int} : Two B (B ++ [.row 3 1 (d.map fun n => [I n])]) none (some B.length) [] d :=
  ⟨.nil0 _ _ _ _, ⟨⟨_, rfl⟩, fun k hk => by cases hk; simp, fun h => by (cases h), fun k hk => by cases hk; exact Nat.le_refl _⟩, fun _ h => by cases h⟩
theorem two_ss {B : List Blk} {u d : List Int} : Two B (B ++ [.row 3 1 (d.map fun n => [I n]), .row 3 1 (u.map fun n => [I n])]) (some (B.length + 1)) (some B.length) u d :=
  ⟨⟨⟨_, rfl⟩, fun k hk => by cases hk; simp, fun h => by (cases h), fun k hk => by cases hk; omega⟩, ⟨⟨_, rfl⟩, fun k hk => by cases hk; simp, fun h => by (cases h), fun k hk => by cases hk; exact Nat.le_refl _⟩, fun k h1 h2 => by cases h1; simp at h2⟩
theorem raw_len (x : Line) : x.raw.length ≤ 3 := by
  unfold Line.raw
  repeat' split
  all_goals simp
theorem defs_len (x : Line) : x.defs.length ≤ 1 := by
  unfold Line.defs
  split <;> simp
theorem app_n1 {H : List Blk} {sl : TypeId × Nat × List Value × Nat} {y : List AV} {K : AV → List Blk → Prop} {w : Wit K} (hb : sl.2.2.2 ≤ 140737488355328) (h : K (.hs H.length 0 1 1) (H ++ [.row sl.1 sl.2.1 [y]])) : appendVW H sl nilS [y] K w :=
  appendVW_nil (by simpa using hb) (by simp) (fun hy => by cases hy) (fun _ => h)
theorem app_h0 {H : List Blk} {sl : TypeId × Nat × List Value × Nat} {t sz n : Nat} {es : List (List AV)} {y : List AV} {K : AV → List Blk → Prop} {w : Wit K} (h1 : t = sl.1) (h2 : sz = sl.2.1) (hn : n = es.length) (hb : (n + 1) * sl.2.2.2 ≤ 140737488355328) (h63 : n + 1 ≤ 9223372036854775807)
    (h : K (.hs H.length 0 (n + 1) (n + 1)) (H ++ [.row t sz (es ++ [y])])) : appendVW (H ++ [.row t sz es]) sl (.hs H.length 0 n n) [y] K w := by
  subst h1 h2 hn
  refine appendVW_hs (es := es) (by simp) rfl rfl (by simpa using hb) (by simpa using h63) ?_
  simpa using h
theorem app_h1 {H : List Blk} {r : Blk} {sl : TypeId × Nat × List Value × Nat} {t sz n : Nat} {es : List (List AV)} {y : List AV} {K : AV → List Blk → Prop} {w : Wit K} (h1 : t = sl.1) (h2 : sz = sl.2.1) (hn : n = es.length) (hb : (n + 1) * sl.2.2.2 ≤ 140737488355328) (h63 : n + 1 ≤ 9223372036854775807)
    (h : K (.hs (H.length + 1) 0 (n + 1) (n + 1)) (H ++ [r, .row t sz (es ++ [y])])) : appendVW (H ++ [r, .row t sz es]) sl (.hs (H.length + 1) 0 n n) [y] K w := by
  subst h1 h2 hn
  refine appendVW_hs (es := es) (by simp) rfl rfl (by simpa using hb) (by simpa using h63) ?_
  simpa using h
theorem usesI_nn {x : Line} {B M : List Blk} {f : Fr} (hM : M = B) (h4 : f 4 = nilS) (h3 : f 3 = nilS) (hr : x.raw = []) (hd : x.defs = []) : UsesI x B f M := by
  subst hM
  exact ⟨none, none, by rw [h4, hr]; rfl, by rw [h3, hd]; rfl, by rw [hr, hd]; have := two_nn (B := M) (L := []); rwa [List.append_nil] at this⟩
theorem usesI_sn {x : Line} {B M : List Blk} {f : Fr} (hM : M = B ++ [.row 3 1 (x.raw.map fun n => [I n])]) (h4 : f 4 = .hs B.length 0 x.raw.length x.raw.length) (h3 : f 3 = nilS) (hd : x.defs = []) : UsesI x B f M := by
  subst hM
  exact ⟨some B.length, none, h4, by rw [h3, hd]; rfl, by rw [hd]; exact two_sn⟩
theorem usesI_ns {x : Line} {B M : List Blk} {f : Fr} (hM : M = B ++ [.row 3 1 (x.defs.map fun n => [I n])]) (h4 : f 4 = nilS) (h3 : f 3 = .hs B.length 0 x.defs.length x.defs.length) (hr : x.raw = []) : UsesI x B f M := by
  subst hM
  exact ⟨none, some B.length, by rw [h4, hr]; rfl, h3, by rw [hr]; exact two_ns⟩
theorem usesI_ss {x : Line} {B M : List Blk} {f : Fr} (hM : M = B ++ [.row 3 1 (x.defs.map fun n => [I n]), .row 3 1 (x.raw.map fun n => [I n])]) (h4 : f 4 = .hs (B.length + 1) 0 x.raw.length x.raw.length) (h3 : f 3 = .hs B.length 0 x.defs.length x.defs.length) : UsesI x B f M := by
  subst hM
  exact ⟨some (B.length + 1), some B.length, h4, h3, two_ss⟩
def usHn (d : Nat) : Bool := d == 13 || d == 25 || d == 42 || d == 48 || d == 64 || d == 74 || d == 80 || d == 90
def UsesR (x : Line) (H : List Blk) (e : AE) (M : List Blk) : Prop := ∃ h hd es m, e = .ret (.tup [cutS h m es.length, hrow hd x.defs.length]) ∧ Two H M h hd es x.defs ∧ m ≤ es.length ∧ es.take m = x.uses
theorem uses_own (x : Line) (H : List Blk) : ACalls Tryz.prog 69 [.agg x.cells] H (UsesR x H) := by
  refine acalls_of_awp Tryz.func69 rfl (by kernel_rfl) ?_
  obtain ⟨B, hB⟩ : ∃ B, B = H ++ [.box 67 x.cells] := ⟨_, rfl⟩
  have hBl : B.length = H.length + 1 := by rw [hB]; simp
  have hb : ∀ L, (B ++ L)[H.length]? = some (.box 67 x.cells) := fun L => by rw [hB]; simp
  refine awp_cut (fun _ => false) (fun _ => none) (fun f H' => B = H' ∧ f 1 = .bp H.length 0 ∧ f 3 = nilS) (by kernel_rfl) ?_ ?_
  · simp -dsimp [hB]
  rintro g _ ⟨rfl, g1, g3⟩
  refine awp_cut (fun _ => false) (fun _ => none) (fun f H' => B ++ [] = H' ∧ f 1 = .bp H.length 0 ∧ f 3 = nilS ∧ f 4 = nilS) (by kernel_rfl) ?_ ?_
  · simp -dsimp [g1, g3]
  clear g g1 g3
  rintro g _ ⟨rfl, g1, g3, g4⟩
  simp only [Line.cells] at hb
  have hb0 := hb []
  rw [List.append_nil] at hb0
  replace hB := Hid.mk hB
  replace hBl := Hid.mk hBl
  refine awp_cut usHn (fun _ => none) (UsesI x B) (by kernel_rfl) ?_ ?_
  · simp -dsimp [g1, g3, g4, hb, hb0, usHn]
    repeat' ((with_reducible first | refine And.intro ?_ ?_ | refine guardVW_introTD (fun _ => ?_) (fun _ => ?_) | refine guardVW_introFD (fun _ => ?_) (fun _ => ?_) | refine condVW_introD (fun _ => ?_) (fun _ => ?_) | refine guardVW_introTE (fun _ => ?_) (fun _ _ _ => ?_) | refine guardVW_introFE (fun _ => ?_) (fun _ _ _ => ?_) | refine condVW_introE (fun _ => ?_) (fun _ _ _ => ?_) | refine guardVW_introTNE (fun _ _ _ => ?_) (fun _ => ?_) | refine guardVW_introFNE (fun _ _ _ => ?_) (fun _ => ?_) | refine condVW_introNE (fun _ _ _ => ?_) (fun _ => ?_) | refine guardVW_introTB (fun _ => ?_) (fun _ => ?_) | refine guardVW_introFB (fun _ => ?_) (fun _ => ?_) | refine condVW_introB (fun _ => ?_) (fun _ => ?_) | refine guardVW_introT (fun _ => ?_) (fun _ => ?_) | refine guardVW_introF (fun _ => ?_) (fun _ => ?_) | refine condVW_intro (fun _ => ?_) (fun _ => ?_) | (refine app_n1 (by simp) ?_) | (refine app_h0 rfl rfl rfl (by simp) (by simp) ?_) | (refine app_h1 rfl rfl rfl (by simp) (by simp) ?_)) <;> simp -dsimp [*, usHn])
    all_goals clear hb hb0 hB hBl
    all_goals first
      | (refine usesI_nn ?_ ?_ ?_ ?_ ?_ <;> (simp [Line.raw, Line.defs, *]; done))
      | (refine usesI_sn ?_ ?_ ?_ ?_ <;> (simp [Line.raw, Line.defs, *]; done))
      | (refine usesI_ns ?_ ?_ ?_ ?_ <;> (simp [Line.raw, Line.defs, *]; done))
      | (refine usesI_ss ?_ ?_ ?_ <;> (simp [Line.raw, Line.defs, *]; done))
  clear g g1 g3 g4
  rintro g M ⟨h, hd, g4, g3, tw⟩
  have hs := isort_h x.raw (by have := raw_len x; omega) h M tw.own.at'
  refine awp_all usHn (fun _ => none) (by kernel_rfl) ?_
  simp -dsimp [g3, g4]
  refine acallsW_of hs ?_
  rintro e M1 ⟨rfl, r1, s1⟩
  have tw1 := tw.step r1 s1
  have hl := (sortI_perm x.raw).length_eq
  have hc := icompact_h (sortI x.raw) (by have := raw_len x; omega) h M1 r1
  rw [hl] at hc
  simp -dsimp [g3, g4]
  refine acallsW_of hc ?_
  rintro e M2 ⟨rfl, r2, s2⟩
  have tw2 := tw1.step r2 s2
  rw [hB.out] at tw2
  simp -dsimp [g3, g4]
  refine ⟨h, hd, compRow (sortI x.raw), (Lib.compact (sortI x.raw)).length, by rw [compRow_len, hl], ⟨tw2.own.less, tw2.dwn.less, tw2.ne⟩, ?_, ?_⟩
  · rw [compRow_len]; exact compact_len _
  · rw [compRow_take, compact_sort]; rfl
theorem uses_ok (x : Line) (H : List Blk) : ACalls Tryz.prog 69 [.agg x.cells] H (fun e H' => e = .ret (.tup [Int.sl x.uses, Int.sl x.defs]) ∧ H' = H) := by
  refine acalls_under fun hu _ => acalls_weakE (acalls_tidy ((uses_own x H).mono ?_))
  rintro e M ⟨h, hd, es, m, rfl, tw, hm, ht⟩
  have := tidy_row2 (R := fun e H' => e = .ret (.tup [Int.sl x.uses, Int.sl x.defs]) ∧ H' = H) (m1 := m) (m2 := x.defs.length) hu tw.own tw.dwn (int_frzB _) (int_frzB _) tw.ne (map_len es).symm (map_len x.defs).symm ⟨by
    rw [← List.map_take, ht, List.take_of_length_le (by simp)], rfl⟩
  rwa [cutS_all] at this
end Go.Proofs
namespace Go.Proofs
open Go.Mu
theorem whereM_step {c : List Line} {i : Nat} (h : i < c.length) (t : List (Int × Int)) : whereM (c.drop i) i t = whereM (c.drop (i + 1)) (i + 1) (if c[i].kind = 2 then iset c[i].label (i : Int) t else t) := by rw [drop_cons h, whereM]
structure AtR (l : Linear) (H : List Blk) (k : Nat) (M : List Blk) : Prop where
  pre : ∃ L, M = H ++ L
  new : H.length ≤ k
  map : M[k]? = some (.map (atM (whereM l.code 0 [])))
def WhI (l : Linear) (H : List Blk) (i : Nat) (H' : List Blk) : Prop := ∃ t L, H' = H ++ .box 25 [I l.vars, Int.sl l.params, Int.sl l.rets, I l.frame, Line.sl l.code] :: .map (atM t) :: L ∧ whereM (l.code.drop i) i t = whereM l.code 0 []
theorem where_ok (l : Linear) (hc : l.code.length ≤ 2^40) (H : List Blk) : ACalls Tryz.prog 42 [.agg l.cells] H (fun e M => e = .ret (.hm (H.length + 1)) ∧ AtR l H (H.length + 1) M) := by
  refine acalls_of_vc (hn := fun _ => false) (od := fun _ => none) Tryz.func42 rfl (by kernel_rfl) ?_
  simp -dsimp
  refine loop_rule (hn := fun _ => false) (od := fun _ => none) (fun (i : Nat) f H' => WhI l H i H' ∧ f 3 = .hm (H.length + 1) ∧ f 8 = Line.sl l.code ∧ f 9 = I l.code.length ∧ f 10 = I i ∧ i ≤ l.code.length) (fun i => l.code.length - i) (by kernel_rfl) 0
    (by refine ⟨⟨[], [], by simp [atM], rfl⟩, ?_⟩; simp) ?_
  rintro i f _ ⟨⟨t, L, rfl, hinv⟩, h3, h8, h9, h10, hi⟩
  simp -dsimp [h3, h8, h9, h10]
  refine condVW_introD (fun hlt => ?_) (fun hlt => ?_)
  · have g := List.getElem?_eq_getElem hlt
    rw [whereM_step hlt] at hinv
    obtain ⟨x, hx⟩ : ∃ x, x = l.code[i] := ⟨_, rfl⟩
    rw [← hx] at g hinv
    clear hx
    replace hinv := Hid.mk hinv
    have hset := atM_set x.label (i : Int) t
    simp -dsimp [h3, h8, h9, h10, g]
    by_cases hk : x.kind = 2
    · have hkb : (x.kind == 2) = true := by simpa using hk
      simp -dsimp [h3, h8, h9, h10, g, hkb, mapEs, hset]
      have hinv := hinv.out
      rw [if_pos hk] at hinv
      exact ⟨i + 1, by omega, ⟨_, _, rfl, hinv⟩, wrapS (by omega), by omega⟩
    · have hkb : (x.kind == 2) = false := by simpa using hk
      simp -dsimp [h3, h8, h9, h10, g, hkb]
      have hinv := hinv.out
      rw [if_neg hk] at hinv
      exact ⟨i + 1, by omega, ⟨_, _, rfl, hinv⟩, wrapS (by omega), by omega⟩
  · rw [drop_end hlt, whereM] at hinv
    subst hinv
    simp -dsimp [h3]
    exact ⟨⟨_, rfl⟩, by omega, by simp⟩
end Go.Proofs
namespace Go.Proofs
open Go.Mu
def nxtU (l : Linear) (i : Nat) (x : Line) : List Int := if x.kind = 3 then [(whr l.code x.label : Int)] else if x.kind = 4 then [(i : Int) + 1, (whr l.code x.label : Int)] else [(i : Int) + 1]
theorem nxtU_rise {l : Linear} {i : Nat} {x : Line} (hx : l.code[i]? = some x) (h5 : x.kind ≠ 5) : riseL (nxtU l i x) = nxt l i := by
  unfold nxt nxtU
  rw [hx]
  simp only [h5, if_false]
  split
  · rfl
  · split <;> rfl
theorem nxtU_len (l : Linear) (i : Nat) (x : Line) : (nxtU l i x).length ≤ 2 := by
  unfold nxtU
  repeat' split
  all_goals simp
theorem whr_lab {l : Linear} (ho : LinOk l) {i : Nat} {x : Line} (hx : l.code[i]? = some x) (hk : x.kind = 3 ∨ x.kind = 4) : ilook x.label (whereM l.code 0 []) = some (whr l.code x.label : Int) := by
  have hj := ho.jump x (List.mem_of_getElem? hx) hk
  have hn : (labs l.code).Nodup := whr_nodup.2 ho.uniq
  rw [whereM_look _ _ _ _ hn, if_pos hj]; simp
def NextI (l : Linear) (i : Nat) (x : Line) (B : List Blk) (f : Fr) (M : List Blk) : Prop := x.kind ≠ 5 ∧ ∃ h, f 7 = hrow h (nxtU l i x).length ∧ OwnI B M h (nxtU l i x)
theorem nextI_of {l : Linear} {i : Nat} {x : Line} {B M : List Blk} {b : Blk} {f : Fr} (h5 : x.kind ≠ 5) (hM : M = B ++ [b, .row 3 1 ((nxtU l i x).map fun n => [I n])]) (h : f 7 = .hs (B.length + 1) 0 (nxtU l i x).length (nxtU l i x).length) : NextI l i x B f M := by
  subst hM
  exact ⟨h5, some (B.length + 1), h, ⟨⟨_, rfl⟩, fun k hk => by cases hk; simp, fun h => by (cases h), fun k hk => by cases hk; omega⟩⟩
def nxHn (d : Nat) : Bool := d == 30 || d == 37 || d == 42
theorem next_ok (l : Linear) (ho : LinOk l) (hc : l.code.length ≤ 2^40) (i k : Nat) (hi : i < l.code.length) (H : List Blk) (hk : H[k]? = some (.map (atM (whereM l.code 0 [])))) : ACalls Tryz.prog 70 [.agg l.cells, I i, .hm k] H (fun e H' => e = .ret (Int.sl (nxt l i)) ∧ H' = H) := by
  refine acalls_under fun hu _ => acalls_weakE (acalls_tidy (acalls_of_awp Tryz.func70 rfl (by kernel_rfl) ?_))
  obtain ⟨x, hx⟩ : ∃ x, l.code[i]? = some x := ⟨_, List.getElem?_eq_getElem hi⟩
  obtain ⟨B, hB⟩ : ∃ B, B = H ++ [.box 25 l.cells] := ⟨_, rfl⟩
  have hBl : Hid (B.length = H.length + 1) := ⟨by rw [hB]; simp⟩
  have hb : ∀ L, (B ++ L)[H.length]? = some (.box 25 l.cells) := fun L => by rw [hB]; simp
  have hm : ∀ L, (B ++ L)[k]? = some (.map (atM (whereM l.code 0 []))) := fun L => by rw [hB, List.append_assoc]; exact get_app_old hk _
  have hb0 := hb []
  rw [List.append_nil] at hb0
  simp only [Linear.cells] at hb hb0
  have u0 : i < l.code.length := hi
  have fin : Hid (∀ L, nxt l i = [(l.code.length : Int)] → Tidy H (WeakE fun e H' => e = .ret (Int.sl (nxt l i)) ∧ H' = H) (.ret (.vs 1 [[I l.code.length]])) (B ++ L)) := ⟨fun L h => by
    rw [hB, List.append_assoc]
    exact tidy_same rfl ⟨_, .refl _, by rw [h]; exact ⟨rfl, rfl⟩⟩⟩
  replace hB := Hid.mk hB
  have hu := Hid.mk hu
  refine awp_cut (fun _ => false) (fun _ => none) (fun f H' => B = H' ∧ f 3 = .bp H.length 0 ∧ f 1 = I i ∧ f 2 = .hm k) (by kernel_rfl) ?_ ?_
  · simp -dsimp [hB.out]
  rintro g _ ⟨rfl, g3, g1, g2⟩
  refine awp_cut (fun _ => false) (fun _ => none) (fun f H' => B = H' ∧ f 3 = .bp H.length 0 ∧ f 1 = I i ∧ f 2 = .hm k ∧ f 7 = nilS) (by kernel_rfl) ?_ ?_
  · simp -dsimp [g1, g2, g3]
  clear g g1 g2 g3
  rintro g _ ⟨rfl, g3, g1, g2, g7⟩
  have hw := whr_lab ho hx
  have hf := atM_find x.label (whereM l.code 0 [])
  have me : ∀ L, mapEs (B ++ L) (.hm k) = some (atM (whereM l.code 0 [])) := fun L => by simp only [mapEs, hm]
  have hi' := Hid.mk hi
  have h5 := nxtU_rise hx
  have he : x.kind = 5 → nxt l i = [(l.code.length : Int)] := fun h => by unfold nxt; rw [hx]; simp [h]
  replace h5 := Hid.mk h5
  replace he := Hid.mk he
  refine awp_cut nxHn (fun _ => none) (NextI l i x B) (by kernel_rfl) ?_ ?_
  · simp -dsimp [g1, g2, g3, g7, hb, hb0, hx, nxHn]
    have hwr : IntKind.i64.wrap ((i : Int) + 1) = (i : Int) + 1 := by have := wrapS (i := i) (by omega); omega
    have ua : x.kind = 5 ∨ x.kind = 4 ∨ x.kind = 3 ∨ (x.kind ≠ 5 ∧ x.kind ≠ 4 ∧ x.kind ≠ 3) := by omega
    rcases ua with hk5 | hk4 | hk3 | ⟨n5, n4, n3⟩
    · have b5 : (x.kind == 5) = true := by simpa using hk5
      simp -dsimp [g1, g2, g3, g7, hb, hb0, hx, nxHn, b5]
      exact fin.out _ (he.out hk5)
    · have b5 : (x.kind == 5) = false := by simp [hk4]
      have b4 : (x.kind == 4) = true := by simpa using hk4
      rw [hw (.inr hk4)] at hf
      simp -dsimp [g1, g2, g3, g7, hb, hb0, hx, nxHn, b5, b4, hwr]
      refine app_n1 (by simp) ?_
      simp -dsimp [g1, g2, g3, g7, hb, hb0, hx, nxHn, b5, b4, hwr, me, hf]
      refine app_h1 rfl rfl rfl (by simp) (by simp) ?_
      simp -dsimp [g1, g2, g3, g7, hb, hb0, hx, nxHn, b5, b4, hwr, me, hf]
      refine nextI_of (b := .box 67 x.cells) (by omega) (by simp [nxtU, hk4]) ?_
      simp [nxtU, hk4]
    · have b5 : (x.kind == 5) = false := by simp [hk3]
      have b4 : (x.kind == 4) = false := by simp [hk3]
      have b3 : (x.kind == 3) = true := by simpa using hk3
      rw [hw (.inl hk3)] at hf
      simp -dsimp [g1, g2, g3, g7, hb, hb0, hx, nxHn, b5, b4, b3, hwr, me, hf]
      refine app_n1 (by simp) ?_
      simp -dsimp [g1, g2, g3, g7, hb, hb0, hx, nxHn, b5, b4, b3, hwr]
      refine nextI_of (b := .box 67 x.cells) (by omega) (by simp [nxtU, hk3]) ?_
      simp [nxtU, hk3]
    · have b5 : (x.kind == 5) = false := by simpa using n5
      have b4 : (x.kind == 4) = false := by simpa using n4
      have b3 : (x.kind == 3) = false := by simpa using n3
      simp -dsimp [g1, g2, g3, g7, hb, hb0, hx, nxHn, b5, b4, b3, hwr]
      refine app_n1 (by simp) ?_
      simp -dsimp [g1, g2, g3, g7, hb, hb0, hx, nxHn, b5, b4, b3, hwr]
      refine nextI_of (b := .box 67 x.cells) (by omega) (by simp [nxtU, n3, n4]) ?_
      simp [nxtU, n3, n4]
  clear g g1 g2 g3 g7
  rintro g M ⟨q5, h, g7, ow⟩
  have hlen := nxtU_len l i x
  have hs := isort_h (nxtU l i x) (by omega) h M ow.at'
  refine awp_all nxHn (fun _ => none) (by kernel_rfl) ?_
  simp -dsimp [g7]
  refine acallsW_of hs ?_
  rintro e M1 ⟨rfl, r1, s1⟩
  have ow1 := ow.step r1 s1
  have hl := (sortI_perm (nxtU l i x)).length_eq
  have hc := icompact_h (sortI (nxtU l i x)) (by omega) h M1 r1
  rw [hl] at hc
  simp -dsimp [g7]
  refine acallsW_of hc ?_
  rintro e M2 ⟨rfl, r2, s2⟩
  have ow2 := ow1.step r2 s2
  rw [hB.out] at ow2
  simp -dsimp [g7]
  refine tidy_row1 hu.out ow2.less (int_frzB _) (by simp [compRow_len, hl]) ⟨?_, rfl⟩
  rw [← List.map_take, compRow_take, compact_sort, h5.out q5]
end Go.Proofs
namespace Go.Proofs
open Go.Mu
def neHn (d : Nat) : Bool := d == 23
def neOd (i : Nat) : Option OPlan := if i = 3 then some [(0, []), (1, []), (2, []), (3, [0]), (4, []), (5, []), (6, [])] else none
structure Linear.Sm (l : Linear) : Prop where
  params : l.params.length ≤ 2^36
  rets : l.rets.length ≤ 2^36
  code : l.code.length ≤ 2^36
theorem nexts_ok (l : Linear) (hs : l.Sm) (hok : l.ok = true) (i : Nat) (hi : i < l.code.length) (H : List Blk) : ACalls Tryz.prog 129 [.agg l.cells, I i] H (fun e H' => e = .ret (.tup [Int.sl (nxt l i), I 0]) ∧ H' = H) := by
  have ho := ((ok_iff l).1 hok).1
  refine acalls_under fun hu _ => acalls_tidy (acalls_of_vc (hn := neHn) (od := neOd) Tryz.func129 rfl (by kernel_rfl) ?_)
  have c1 := linear_ok l (by have := hs.params; omega) (by have := hs.rets; omega) (by have := hs.code; omega)
  have c2 := where_ok l (by have := hs.code; omega)
  have c3 := fun H k h => next_ok l ho (by have := hs.code; omega) i k hi H h
  simp only [Linear.cells, hok] at c1 c2 c3
  simp -dsimp
  refine acallsW_det (c1 _) ?_
  have n1 : ¬ ((i : Int) < 0) := by omega
  have n2 : ¬ ((l.code.length : Int) ≤ i) := by omega
  simp -dsimp [n1, n2]
  simp -dsimp [neOd, neHn]
  refine acallsW_of (c2 _) ?_
  rintro e M ⟨rfl, ⟨L, rfl⟩, hnew, hm⟩
  have hb : (H ++ [Blk.box 25 [I l.vars, Int.sl l.params, Int.sl l.rets, I l.frame, Line.sl l.code]] ++ L)[H.length]? = some (Blk.box 25 [I l.vars, Int.sl l.params, Int.sl l.rets, I l.frame, Line.sl l.code]) := by simp
  obtain ⟨N, hN⟩ : ∃ N, N = H ++ [Blk.box 25 [I l.vars, Int.sl l.params, Int.sl l.rets, I l.frame, Line.sl l.code]] ++ L := ⟨_, rfl⟩
  rw [← hN] at hm hb ⊢
  replace hN := Hid.mk hN
  obtain ⟨q, hq⟩ : ∃ q, q = (H ++ [Blk.box 25 [I l.vars, Int.sl l.params, Int.sl l.rets, I l.frame, Line.sl l.code]]).length + 1 := ⟨_, rfl⟩
  rw [← hq] at hm ⊢
  have e24 : neHn 24 = false := rfl
  simp -dsimp [neOd, e24, hb]
  refine callDW_intro (c3 _ _ hm) ?_
  simp -dsimp [neOd, neHn, hb]
  rw [hN.out, List.append_assoc]
  exact tidy_same rfl ⟨rfl, rfl⟩
end Go.Proofs
namespace Go.Proofs
open Go.Mu
def updS (S : Nat → List Int) (i : Nat) (s : List Int) : Nat → List Int := fun j => if j = i then s else S j
@[simp] theorem updS_same (S : Nat → List Int) (i : Nat) (s : List Int) : updS S i s i = s := by simp [updS]
theorem updS_ne (S : Nat → List Int) {i j : Nat} (s : List Int) (h : j ≠ i) : updS S i s j = S j := by simp [updS, h]
def tot (n : Nat) (S : Nat → List Int) : Nat := ((List.range (n + 1)).map fun j => (S j).length).sum
theorem sum_upd (f : Nat → Nat) (i d : Nat) : ∀ (n : Nat), i < n → ((List.range n).map fun j => if j = i then f j + d else f j).sum = ((List.range n).map f).sum + d
  | 0, h => by omega
  | n + 1, h => by
    rw [List.range_succ, List.map_append, List.map_append, List.sum_append, List.sum_append]
    by_cases e : i = n
    · subst e
      have : ((List.range i).map fun j => if j = i then f j + d else f j) = (List.range i).map f := List.map_congr_left fun j hj => by rw [if_neg]; have := List.mem_range.1 hj; omega
      rw [this]; simp; omega
    · rw [sum_upd f i d n (by omega)]
      simp only [List.map_cons, List.map_nil, List.sum_cons, List.sum_nil, if_neg (fun h : n = i => e h.symm)]; omega
theorem tot_add {n i : Nat} {S : Nat → List Int} {v : Int} (hi : i ≤ n) : tot n (updS S i (S i ++ [v])) = tot n S + 1 := by
  unfold tot
  have : (fun j => (updS S i (S i ++ [v]) j).length) = fun j => if j = i then (S j).length + 1 else (S j).length := by
    funext j
    by_cases e : j = i
    · subst e; simp
    · rw [updS_ne _ _ e, if_neg e]
  rw [this]
  exact sum_upd (fun j => (S j).length) i 1 (n + 1) (by omega)
theorem nodup_lenI : ∀ (n : Nat) (s : List Int), s.Nodup → (∀ v ∈ s, 0 ≤ v ∧ v < n) → s.length ≤ n
  | 0, s, _, h => by cases s with
    | nil => simp
    | cons x s => have := h x (List.mem_cons_self ..); omega
  | n + 1, s, hs, h => by
    by_cases hn : (n : Int) ∈ s
    · have h1 := nodup_lenI n (s.erase n) (hs.erase _) (fun j hj => by
        have hm := (hs.mem_erase_iff.1 hj)
        have := h j hm.2
        have := hm.1
        omega)
      rw [List.length_erase_of_mem hn] at h1
      omega
    · have := nodup_lenI n s hs (fun j hj => by have := h j hj; have : j ≠ (n : Int) := fun e => hn (e ▸ hj); omega)
      omega
structure GoodS (l : Linear) (S : Nat → List Int) : Prop where
  once : ∀ i, i ≤ l.code.length → (S i).Nodup
  live : ∀ i, i ≤ l.code.length → ∀ v ∈ S i, LiveAt l i v
  rets : ∀ v ∈ l.rets, v ∈ S l.code.length
def ClosedAt (l : Linear) (S : Nat → List Int) (i : Nat) (x : Line) : Prop := (∀ k ∈ nxt l i, ∀ v ∈ S k.toNat, v ∉ x.defs → v ∈ S i) ∧ ∀ v ∈ x.raw, v ∈ S i
theorem GoodS.add {l : Linear} {S : Nat → List Int} (g : GoodS l S) {i : Nat} {v : Int} (hi : i ≤ l.code.length) (hv : v ∉ S i) (hl : LiveAt l i v) : GoodS l (updS S i (S i ++ [v])) := by
  refine ⟨fun j hj => ?_, fun j hj w hw => ?_, fun w hw => ?_⟩
  · by_cases e : j = i
    · subst e
      rw [updS_same, List.nodup_append]
      exact ⟨g.once j hj, by simp, fun a ha b hb e => hv (by rw [List.mem_singleton] at hb; rw [← hb, ← e]; exact ha)⟩
    · rw [updS_ne _ _ e]; exact g.once j hj
  · by_cases e : j = i
    · subst e
      rw [updS_same] at hw
      rcases List.mem_append.1 hw with hw | hw
      · exact g.live j hj w hw
      · rw [List.mem_singleton] at hw; subst hw; exact hl
    · rw [updS_ne _ _ e] at hw; exact g.live j hj w hw
  · have := g.rets w hw
    by_cases e : l.code.length = i
    · subst e; rw [updS_same]; exact List.mem_append_left _ this
    · rw [updS_ne _ _ e]; exact this
theorem GoodS.tot_le {l : Linear} (ho : LinOk l) {S : Nat → List Int} (g : GoodS l S) : tot l.code.length S ≤ (l.code.length + 1) * l.vars.toNat := by
  have h1 : ∀ i, i ≤ l.code.length → (S i).length ≤ l.vars.toNat := fun i hi => nodup_lenI _ _ (g.once i hi) fun v hv => by
    have := (live_in ho (g.live i hi v hv)).1; omega
  have h2 : ∀ m, m ≤ l.code.length + 1 → ((List.range m).map fun j => (S j).length).sum ≤ m * l.vars.toNat := by
    intro m
    induction m with
    | zero => simp
    | succ m ih =>
      intro hm
      rw [List.range_succ, List.map_append, List.sum_append, Nat.succ_mul]
      have := h1 m (by omega)
      have := ih (by omega)
      simp; omega
  exact h2 _ (Nat.le_refl _)
theorem GoodS.all {l : Linear} (ho : LinOk l) {S : Nat → List Int} (g : GoodS l S) (hc : ∀ i x, l.code[i]? = some x → ClosedAt l S i x) {i : Nat} (hi : i ≤ l.code.length) (v : Int) : v ∈ S i ↔ LiveAt l i v := by
  refine ⟨g.live i hi v, fun h => ?_⟩
  refine live_closed (S := fun i v => v ∈ S i) g.rets (fun i x v hx hv => (hc i x hx).2 v hv) (fun i x k v hx hd hk hv => (hc i x hx).1 k hk v (by simpa using hv) hd) h
theorem GoodS.rise {l : Linear} (ho : LinOk l) {S : Nat → List Int} (g : GoodS l S) (hc : ∀ i x, l.code[i]? = some x → ClosedAt l S i x) {i : Nat} (hi : i ≤ l.code.length) : riseL (S i) = liveL l i :=
  (rise_eq (liveL_rise l i) fun v => (live_mem ho).trans (g.all ho hc hi v).symm).symm
theorem nxt_ne {l : Linear} (ho : LinOk l) {i : Nat} {k : Int} (hk : k ∈ nxt l i) : k ≠ (i : Int) := by
  have hin := nxt_in ho hk
  unfold nxt at hk
  rw [List.getElem?_eq_getElem hin.2.2] at hk
  have hx := List.getElem?_eq_getElem hin.2.2
  obtain ⟨x, hxe⟩ : ∃ x, x = l.code[i] := ⟨_, rfl⟩
  rw [← hxe] at hx hk
  have hw : x.kind = 3 ∨ x.kind = 4 → (whr l.code x.label : Int) ≠ i := fun h e => by
    have e' : whr l.code x.label = i := by omega
    have hj := ho.jump x (List.mem_of_getElem? hx) h
    have hl : isLab x.label (l.code[whr l.code x.label]'hj) = true := List.findIdx_getElem
    have : l.code[whr l.code x.label]'hj = x := by
      have q := List.getElem?_eq_getElem hj
      have q2 : l.code[whr l.code x.label]? = l.code[i]? := by rw [e']
      rw [q2, hx, Option.some.injEq] at q
      exact q.symm
    rw [this] at hl
    have := (isLab_iff.1 hl).1
    omega
  simp only at hk
  split at hk
  · rw [List.mem_singleton] at hk; omega
  · split at hk
    · rw [List.mem_singleton] at hk; rw [hk]; exact hw (by omega)
    · split at hk
      · rw [riseL_mem] at hk
        rcases List.mem_cons.1 hk with e | e
        · omega
        · rw [List.mem_singleton] at e; rw [e]; exact hw (by omega)
      · rw [List.mem_singleton] at hk; omega
def liveRow (p m : Nat) : List (List AV) := (List.range m).map fun j => [.hm (p + 1 + j)]
def Lv (P : List Blk) (n : Nat) (S : Nat → List Int) (L : List Blk) : List Blk := P ++ (.row 88 1 (liveRow P.length (n + 1)) :: ((List.range (n + 1)).map fun j => Blk.map (stand (S j))) ++ L)
theorem lv_row (P : List Blk) (n : Nat) (S : Nat → List Int) (L : List Blk) : (Lv P n S L)[P.length]? = some (.row 88 1 (liveRow P.length (n + 1))) := by unfold Lv; rw [List.getElem?_append_right (by omega)]; simp
theorem lv_old {P : List Blk} {i : Nat} {b : Blk} (h : P[i]? = some b) (n : Nat) (S : Nat → List Int) (L : List Blk) : (Lv P n S L)[i]? = some b := by unfold Lv; exact get_app_old h _
theorem lv_map (P : List Blk) {n j : Nat} (hj : j ≤ n) (S : Nat → List Int) (L : List Blk) : (Lv P n S L)[P.length + 1 + j]? = some (.map (stand (S j))) := by
  unfold Lv
  rw [List.getElem?_append_right (by omega), show P.length + 1 + j - P.length = j + 1 by omega, List.cons_append, List.getElem?_cons_succ, List.getElem?_append_left (by simp; omega), List.getElem?_map, List.getElem?_range (by omega)]; rfl
theorem lv_set (P : List Blk) {n j : Nat} (hj : j ≤ n) (S : Nat → List Int) (L : List Blk) (s : List Int) : (Lv P n S L).set (P.length + 1 + j) (.map (stand s)) = Lv P n (updS S j s) L := by
  unfold Lv
  rw [List.set_append, if_neg (by omega), show P.length + 1 + j - P.length = j + 1 by omega, List.cons_append, List.set_cons_succ, List.cons_append, List.set_append, if_pos (by simp; omega)]
  congr 3
  apply List.ext_getElem?
  intro i
  rw [List.getElem?_set]
  by_cases h : i < n + 1
  · by_cases e : j = i
    · subst e
      rw [if_pos rfl, if_pos (by simp; omega), List.getElem?_map, List.getElem?_range h]; simp
    · rw [if_neg e, List.getElem?_map, List.getElem?_map, List.getElem?_range h]
      simp only [Option.map_some]
      rw [updS_ne _ _ (fun h => e h.symm)]
  · rw [List.getElem?_eq_none (l := (List.range (n + 1)).map fun j_1 => Blk.map (stand (updS S j s j_1))) (by simp; omega)]
    by_cases e : j = i
    · subst e; omega
    · rw [if_neg e, List.getElem?_eq_none (by simp; omega)]
theorem lv_app (P : List Blk) (n : Nat) (S : Nat → List Int) (L X : List Blk) : Lv P n S L ++ X = Lv P n S (L ++ X) := by unfold Lv; simp [List.append_assoc]
theorem lv_len (P : List Blk) (n : Nat) (S : Nat → List Int) (L : List Blk) : (Lv P n S L).length = P.length + 1 + (n + 1) + L.length := by unfold Lv; simp; omega
theorem lv_junk (P : List Blk) (n : Nat) (S : Nat → List Int) (L X : List Blk) (b : Blk) : (Lv P n S (L ++ b :: X))[P.length + 1 + (n + 1) + L.length]? = some b := by
  rw [← lv_app, List.getElem?_append_right (by rw [lv_len]; omega), lv_len]; simp
theorem lv_junkset (P : List Blk) (n : Nat) (S : Nat → List Int) (L X : List Blk) (b c : Blk) : (Lv P n S (L ++ b :: X)).set (P.length + 1 + (n + 1) + L.length) c = Lv P n S (L ++ c :: X) := by
  rw [← lv_app, ← lv_app, List.set_append, if_neg (by rw [lv_len]; omega), lv_len]; simp
theorem liveRow_get {p m j : Nat} (h : j < m) : (liveRow p m)[j]? = some [.hm (p + 1 + j)] := by unfold liveRow; rw [List.getElem?_map, List.getElem?_range h]; rfl
theorem liveRow_len (p m : Nat) : (liveRow p m).length = m := by simp [liveRow]
theorem midx_stand (v : Int) : ∀ (s : List Int), v ∉ s → midx (.int .i64) (.int .i64 v) (stand s) = s.length
  | [], _ => rfl
  | a :: s, h => by
    simp only [List.mem_cons, not_or] at h
    have e : (v == a) = false := by simp [h.1]
    have : stand (a :: s) = (.int .i64 a, .agg [Bo true]) :: stand s := rfl
    rw [this, midx, sameNow_i64, e]
    simp only [midx_stand v s h.2]; rfl
theorem stand_ent (v : Int) : ∀ (s : List Int), v ∉ s → mset (.int .i64) (.int .i64 v) (.agg [Bo false]) (stand s) = some (stand s ++ [(.int .i64 v, .agg [Bo false])])
  | [], _ => rfl
  | a :: s, h => by
    simp only [List.mem_cons, not_or] at h
    have e : (v == a) = false := by simp [h.1]
    have : stand (a :: s) = (.int .i64 a, .agg [Bo true]) :: stand s := rfl
    rw [this, mset, sameNow_i64, e]
    simp only [stand_ent v s h.2]; rfl
theorem stand_len (s : List Int) : (stand s).length = s.length := by simp [stand]
theorem stand_fin (v : Int) (s : List Int) : (stand s ++ [(Value.int .i64 v, AV.agg [Bo false])]).modify s.length (fun p => (p.1, AV.agg [Bo true])) = stand (s ++ [v]) := by
  apply List.ext_getElem?
  intro j
  rw [List.getElem?_modify]
  have hs := stand_len s
  by_cases h : j < s.length
  · have hne : s.length ≠ j := by omega
    rw [List.getElem?_append_left (by omega)]
    simp [stand, List.getElem?_append_left h, hne]
    rw [List.getElem?_append_left (by simpa using h)]; simp
  · rw [List.getElem?_append_right (by omega), hs]
    by_cases e : j = s.length
    · subst e; simp [stand]
    · rw [List.getElem?_eq_none (l := [(Value.int .i64 v, AV.agg [Bo false])]) (by simp; omega), List.getElem?_eq_none (by simp [stand]; omega)]; rfl
end Go.Proofs
namespace Go.Proofs
open Go.Mu
theorem isorted_give (t : List Int) (ht : t.Nodup) (hl : t.length ≤ 2^40) (km b : Nat) (H : List Blk) (hb : H[b]? = some (.box 88 [.hm km])) (hk : H[km]? = some (.map (stand t))) :
    ACalls Tryz.prog 72 [.fn (.func 110) [] [.bp b 0]] H (fun e H' => e = .ret (Int.sl (riseL t)) ∧ H' = H) := by
  refine acalls_under fun hu _ => acalls_weakE (acalls_tidy ((isorted_ok t km b hl H hb hk).mono ?_))
  rintro e M ⟨ns, hp, rfl, rfl⟩
  have e1 : sortI ns = riseL t := by
    rw [sort_rise (hp.nodup_iff.2 ht)]
    exact sorted_ext (riseL_rise _) (riseL_rise _) fun x => by rw [riseL_mem, riseL_mem]; exact hp.mem_iff
  rw [e1]
  have o : OwnI H (H ++ [intB (riseL t)]) (if riseL t = [] then none else some H.length) (riseL t) := by
    by_cases he : riseL t = []
    · rw [if_pos he, he]; exact .nil0 _ _ _ _
    · rw [if_neg he]
      exact ⟨⟨_, rfl⟩, fun k hk => by (cases hk; simp [ownB, he]), fun h => by (cases h), fun k hk => by cases hk; exact Nat.le_refl _⟩
  have := tidy_rowA (n := (riseL t).length) (R := fun e H' => e = .ret (Int.sl (riseL t)) ∧ H' = H) hu o (int_frzB _) (map_len _).symm ⟨rfl, rfl⟩
  have e2 : intS H.length (riseL t) = hrow (if riseL t = [] then none else some H.length) (riseL t).length := by
    by_cases he : riseL t = []
    · rw [if_pos he, he]; rfl
    · rw [if_neg he]; simp [ownS, he, hrow]
  rw [e2]; exact this
noncomputable def lvL (l : Linear) : List (List Int) := (List.range l.code.length).map (liveL l)
abbrev Ints.sl (l : List (List Int)) : AV := .vs 1 (l.map fun x => [Int.sl x])
theorem stand_set_in (n : Int) : ∀ (ls : List Int), n ∈ ls → mset (.int .i64) (.int .i64 n) (.agg [Bo true]) (stand ls) = some (stand ls)
  | [], h => by simp at h
  | a :: ls, h => by
    have : stand (a :: ls) = (.int .i64 a, .agg [Bo true]) :: stand ls := rfl
    rw [this, mset, sameNow_i64]
    by_cases e : n = a
    · subst e; simp
    · have e' : (n == a) = false := by simp [e]
      rw [e']
      rcases List.mem_cons.1 h with h | h
      · exact absurd h e
      · simp only [stand_set_in n ls h]; rfl
def putS (v : Int) (s : List Int) : List Int := if v ∈ s then s else s ++ [v]
theorem stand_put (v : Int) (s : List Int) : mset (.int .i64) (.int .i64 v) (.agg [Bo true]) (stand s) = some (stand (putS v s)) := by
  unfold putS
  by_cases h : v ∈ s
  · rw [if_pos h]; exact stand_set_in v s h
  · rw [if_neg h]; exact stand_set v s h
theorem putS_nodup {v : Int} {s : List Int} (h : s.Nodup) : (putS v s).Nodup := by
  unfold putS
  split
  · exact h
  · rename_i hv
    rw [List.nodup_append]
    exact ⟨h, by simp, fun a ha b hb e => hv (by rw [List.mem_singleton] at hb; rw [← hb, ← e]; exact ha)⟩
theorem putS_mem {v w : Int} {s : List Int} : w ∈ putS v s ↔ w ∈ s ∨ w = v := by
  unfold putS
  split
  · rename_i h; exact ⟨.inl, fun q => q.elim id (fun e => e ▸ h)⟩
  · simp
theorem lv_es (P : List Blk) {n j : Nat} (hj : j ≤ n) (S : Nat → List Int) (L : List Blk) : mapEs (Lv P n S L) (.hm (P.length + 1 + j)) = some (stand (S j)) := by simp only [mapEs, lv_map P hj]
theorem lv_cells (P : List Blk) {n j : Nat} (hj : j ≤ n) (S : Nat → List Int) (L : List Blk) : cellsAt (Lv P n S L) (.rp P.length (n + 1) j 0) = some [.hm (P.length + 1 + j)] := by simp [cellsAt, lv_row, liveRow_len, liveRow_get (show j < n + 1 by omega)]
def RetI (l : Linear) (P : List Blk) (n i : Nat) (M : List Blk) : Prop := ∃ S, M = Lv P n S [] ∧ (∀ j, j ≤ n → (S j).Nodup) ∧ (∀ j, j ≤ n → ∀ v ∈ S j, j = n ∧ v ∈ l.rets) ∧ ∀ v ∈ l.rets.take i, v ∈ S n
def LiveI (l : Linear) (P : List Blk) (n : Nat) (S0 : Nat → List Int) (i : Nat) (f10 : AV) (M : List Blk) : Prop := ∃ S L c, M = Lv P n S L ∧ GoodS l S ∧ tot n S0 ≤ tot n S ∧ (c = true → tot n S0 < tot n S) ∧ f10 = Bo c ∧ (c = false → ∀ j x, i ≤ j → l.code[j]? = some x → ClosedAt l S j x)
def StI (l : Linear) (P : List Blk) (n : Nat) (S0 S1 : Nat → List Int) (c1 : Bool) (C : Prop) (f10 : AV) (M : List Blk) : Prop := ∃ S L c, M = Lv P n S L ∧ GoodS l S ∧ tot n S0 ≤ tot n S ∧ (c = true → tot n S0 < tot n S) ∧ f10 = Bo c ∧ (c = false → c1 = false ∧ S = S1 ∧ C)
theorem StI.weak {l : Linear} {P : List Blk} {n : Nat} {S0 S1 : Nat → List Int} {c1 : Bool} {C C' : Prop} {f10 : AV} {M : List Blk} (h : StI l P n S0 S1 c1 C f10 M) (hC : C → C') : StI l P n S0 S1 c1 C' f10 M := by
  obtain ⟨S, L, c, h1, h2, h3, h4, h5, h6⟩ := h
  exact ⟨S, L, c, h1, h2, h3, h4, h5, fun hc => let ⟨a, b, d⟩ := h6 hc; ⟨a, b, hC d⟩⟩
def KsI (l : Linear) (i : Nat) (x : Line) (S1 : Nat → List Int) (q : Nat) : Prop := ∀ k ∈ (nxt l i).take q, ∀ v ∈ S1 k.toNat, v ∉ x.defs → v ∈ S1 i
def MapI (l : Linear) (P : List Blk) (n : Nat) (S0 S1 : Nat → List Int) (c1 : Bool) (C : Prop) (i k : Nat) (x : Line) (T : List Int) (L : List Blk) (seen : List Nat) (f10 : AV) (M : List Blk) : Prop := ∃ S c, M = Lv P n S (L ++ [.it (some (P.length + 1 + k)) T.length seen]) ∧ S k = T ∧ GoodS l S ∧ tot n S0 ≤ tot n S ∧ (c = true → tot n S0 < tot n S) ∧ f10 = Bo c ∧ (c = false → c1 = false ∧ S = S1 ∧ C ∧ ∀ j ∈ seen, ∀ v, T[j]? = some v → v ∉ x.defs → v ∈ S1 i)
theorem any_has (l : List Int) (v : Int) : (l.any fun x => decide (v = x)) = decide (v ∈ l) := by
  rw [Bool.eq_iff_iff]; simp [List.any_eq_true]
abbrev OwnLs (B M : List Blk) (h : Option Nat) (l : List (List Int)) : Prop := Own 22 1 B M h (l.map fun x => [Int.sl x])
theorem ints_frzB (l : List (List Int)) : (l.map fun x => [Int.sl x]).flatten.all AV.frzB = true := by
  induction l with
  | nil => rfl
  | cons x l ih => rw [List.map_cons, List.flatten_cons, List.all_append, ih]; simp [AV.frzB]
theorem live_ok (l : Linear) (hs : l.Sm) (hok : l.ok = true) (H : List Blk) : ACalls Tryz.prog 31 [.agg l.cells] H (fun e H' => e = .ret (.tup [Ints.sl (lvL l), I 0]) ∧ H' = H) := by
  have ho := ((ok_iff l).1 hok).1
  refine acalls_under fun hu _ => acalls_weakE (acalls_tidy (acalls_of_awp Tryz.func31 rfl (by kernel_rfl) ?_))
  have c1 := linear_ok l (by have := hs.params; omega) (by have := hs.rets; omega) (by have := hs.code; omega)
  have c2 := where_ok l (by have := hs.code; omega)
  simp only [Linear.cells, hok] at c1 c2
  obtain ⟨B, hB⟩ : ∃ B, B = H ++ [.box 25 l.cells] := ⟨_, rfl⟩
  have hb : B[H.length]? = some (.box 25 l.cells) := by rw [hB]; simp
  simp only [Linear.cells] at hb
  replace hB := Hid.mk hB
  have hu := Hid.mk hu
  refine awp_cut (fun _ => false) (fun _ => none) (fun f H' => B = H' ∧ f 1 = .bp H.length 0) (by kernel_rfl) ?_ ?_
  · simp -dsimp [hB.out]
  rintro g _ ⟨rfl, g1⟩
  refine awp_scope_r ?_
  refine awp_cut (fun _ => false) (fun _ => none) (fun f H' => B = H' ∧ f 1 = .bp H.length 0) (by kernel_rfl) ?_ ?_
  · simp -dsimp [g1, hb]
    refine acallsW_det (c1 _) ?_
    simp -dsimp [g1]
  clear g g1
  rintro g _ ⟨rfl, g1⟩
  refine awp_cut (fun _ => false) (fun _ => none) (fun f M => f 1 = .bp H.length 0 ∧ f 4 = .hm (B.length + 1) ∧ AtR l B (B.length + 1) M) (by kernel_rfl) ?_ ?_
  · simp -dsimp [g1, hb]
    refine acallsW_of (c2 _) ?_
    rintro e M ⟨rfl, hM⟩
    simp -dsimp [g1]
    exact hM
  clear g g1
  rintro g P ⟨g1, g4, ⟨L0, hP⟩, hnew, hm⟩
  have hbP : P[H.length]? = some (.box 25 [I l.vars, Int.sl l.params, Int.sl l.rets, I l.frame, Line.sl l.code]) := by rw [hP]; exact get_app_old hb _
  obtain ⟨a, ha⟩ : ∃ a, a = B.length + 1 := ⟨_, rfl⟩
  rw [← ha] at g4 hm
  replace hP := Hid.mk hP
  clear c1 c2 hb hnew
  have hn := hs.code
  have hrl := hs.rets
  obtain ⟨n, hnl⟩ : ∃ n, n = l.code.length := ⟨_, rfl⟩
  refine awp_cut (fun _ => false) (fun _ => none) (fun f M => P = M ∧ f 1 = .bp H.length 0 ∧ f 4 = .hm a ∧ f 5 = I n) (by kernel_rfl) ?_ ?_
  · simp -dsimp [g1, g4, hbP, hnl]
  clear g g1 g4
  rintro g _ ⟨rfl, g1, g4, g5⟩
  refine awp_cut (fun _ => false) (fun _ => none) (fun f M => P ++ [.row 88 1 (List.replicate (n + 1) [.v (.map none)])] = M ∧ f 1 = .bp H.length 0 ∧ f 4 = .hm a ∧ f 5 = I n ∧ f 6 = .hs P.length 0 (n + 1) (n + 1)) (by kernel_rfl) ?_ ?_
  · have hw : IntKind.i64.wrap ((n : Int) + 1) = ((n + 1 : Nat) : Int) := wrapS (by omega)
    simp -dsimp [g1, g4, g5, hw]
    have ht : ((n : Int) + 1).toNat = n + 1 := by omega
    refine ⟨⟨by omega, by omega, by omega⟩, ?_⟩
    simp -dsimp [g1, g4, g5, hw, ht]
  clear g g1 g4 g5
  rintro g _ ⟨rfl, g1, g4, g5, g6⟩
  have hn' : n ≤ 2^38 := by omega
  have hn1 := Hid.mk hn
  have hn2 := Hid.mk hnl
  -- each line's set
  refine awp_cut (fun _ => false) (fun _ => none) (fun f M => M = Lv P n (fun _ => []) [] ∧ f 1 = .bp H.length 0 ∧ f 4 = .hm a ∧ f 5 = I n ∧ f 6 = .hs P.length 0 (n + 1) (n + 1)) (by kernel_rfl) ?_ ?_
  · obtain ⟨Rw, hRw⟩ : ∃ Rw : Nat → List (List AV), ∀ i, Rw i = (List.range i).map (fun j => [.hm (P.length + 1 + j)]) ++ List.replicate (n + 1 - i) [.v (.map none)] := ⟨_, fun _ => rfl⟩
    have Rl : ∀ i, i ≤ n + 1 → (Rw i).length = n + 1 := fun i hi => by rw [hRw]; simp; omega
    have Rg : ∀ i, i < n + 1 → (Rw i)[i]? = some [.v (.map none)] := fun i hi => by
      rw [hRw, List.getElem?_append_right (by simp), List.length_map, List.length_range, Nat.sub_self, List.getElem?_replicate, if_pos (by omega)]
    have Rs : ∀ i, i < n + 1 → (Rw i).set i [.hm (P.length + 1 + i)] = Rw (i + 1) := fun i hi => by
      rw [hRw, hRw, List.set_append, if_neg (by simp), List.length_map, List.length_range, Nat.sub_self, show n + 1 - i = (n + 1 - (i + 1)) + 1 by omega, List.replicate_succ, List.set_cons_zero, List.range_succ, List.map_append]
      simp
    obtain ⟨G, hG⟩ : ∃ G : Nat → List Blk, ∀ i, G i = P ++ .row 88 1 (Rw i) :: List.replicate i (Blk.map []) := ⟨_, fun _ => rfl⟩
    have G0 : P ++ [.row 88 1 (List.replicate (n + 1) [.v (.map none)])] = G 0 := by rw [hG, hRw]; simp
    have Gr : ∀ i L, (G i ++ L)[P.length]? = some (.row 88 1 (Rw i)) := fun i L => by rw [hG]; simp
    have Gr0 : ∀ i, (G i)[P.length]? = some (.row 88 1 (Rw i)) := fun i => by rw [hG]; simp
    have Gs : ∀ i X, (G i ++ [Blk.map []]).set P.length (.row 88 1 X) = P ++ .row 88 1 X :: List.replicate (i + 1) (Blk.map []) := fun i X => by
      rw [hG, List.append_assoc, List.set_append, if_neg (by omega), Nat.sub_self, List.cons_append, List.set_cons_zero, List.replicate_succ']
    have Gl : ∀ i, (G i).length = P.length + 1 + i := fun i => by rw [hG]; simp; omega
    have Gn : G (n + 1) = Lv P n (fun _ => []) [] := by
      rw [hG, hRw]; unfold Lv liveRow
      simp only [Nat.sub_self, List.replicate_zero, List.append_nil]
      congr 2
      rw [show (fun j : Nat => Blk.map (stand [])) = fun _ => Blk.map [] from rfl, List.map_const']; simp
    rw [← Gn, G0]
    clear hRw
    have hG := Hid.mk hG
    have Gn := Hid.mk Gn
    have R0 := Rl 0 (by omega)
    simp -dsimp [g1, g4, g5, g6, Gr0, R0]
    have Rl := Hid.mk Rl
    refine loop_rule (hn := fun _ => false) (od := fun _ => none) (fun (i : Nat) f M => M = G i ∧ f 1 = .bp H.length 0 ∧ f 4 = .hm a ∧ f 5 = I n ∧ f 6 = .hs P.length 0 (n + 1) (n + 1) ∧ f 33 = I ((n + 1 : Nat) : Int) ∧ f 34 = I i ∧ i ≤ n + 1) (fun i => n + 1 - i) (by kernel_rfl) 0 (by simp [g1, g4, g5, g6]) ?_
    clear g g1 g4 g5 g6
    rintro i g _ ⟨rfl, g1, g4, g5, g6, g33, g34, hi⟩
    have hRi := Rl.out i hi
    simp -dsimp [g33, g34]
    refine condVW_introD (fun hlt => ?_) (fun hlt => ?_)
    · have hlt' : i < n + 1 := by omega
      simp -dsimp [g1, g4, g5, g6, g33, g34, Gr, hRi, Gl, Gs, Rg i hlt', Rs i hlt']
      refine ⟨by omega, ?_⟩
      simp -dsimp [g1, g4, g5, g6, g33, g34, Gr, hRi, Gl, Gs, Rg i hlt', Rs i hlt']
      have hast := astore_one (x := .hm (P.length + 1 + i)) (Gr i [Blk.map []]) hRi (Rg i hlt')
      simp -dsimp [g1, g4, g5, g6, g33, g34, hast, Gs, Rs i hlt']
      exact ⟨i + 1, by omega, by rw [hG.out], wrapS (by omega), by omega⟩
    · simp -dsimp [g1, g4, g5, g6]
      have : i = n + 1 := by omega
      rw [this, Gn.out]
  clear g g1 g4 g5 g6
  rintro g _ ⟨rfl, g1, g4, g5, g6⟩
  -- what is told at the end
  have lr := fun S L => lv_row P n S L
  have lb := fun S L => lv_old hbP n S L
  have lm := fun S L => lv_old hm n S L
  have rl := liveRow_len P.length (n + 1)
  refine awp_cut (fun _ => false) (fun _ => none) (fun f M => (∃ S, M = Lv P n S [] ∧ GoodS l S) ∧ f 1 = .bp H.length 0 ∧ f 4 = .hm a ∧ f 5 = I n ∧ f 6 = .hs P.length 0 (n + 1) (n + 1)) (by kernel_rfl) ?_ ?_
  · simp -dsimp [g1, g4, g5, g6, lb]
    refine loop_rule (hn := fun _ => false) (od := fun _ => none) (fun (i : Nat) f M => RetI l P n i M ∧ f 1 = .bp H.length 0 ∧ f 4 = .hm a ∧ f 5 = I n ∧ f 6 = .hs P.length 0 (n + 1) (n + 1) ∧ f 43 = Int.sl l.rets ∧ f 44 = I l.rets.length ∧ f 45 = I i ∧ i ≤ l.rets.length) (fun i => l.rets.length - i) (by kernel_rfl) 0 ⟨⟨_, rfl, fun _ _ => List.nodup_nil, fun _ _ _ h => by simp at h, fun _ h => by simp at h⟩, by simp [g1, g4, g5, g6]⟩ ?_
    clear g g1 g4 g5 g6
    rintro i g _ ⟨⟨S, rfl, s1, s2, s3⟩, g1, g4, g5, g6, g43, g44, g45, hi⟩
    simp -dsimp [g43, g44, g45]
    refine condVW_introD (fun hlt => ?_) (fun hlt => ?_)
    · have hlt' : i < l.rets.length := by omega
      have gv := List.getElem?_eq_getElem hlt'
      obtain ⟨v, hv⟩ : ∃ v, v = l.rets[i] := ⟨_, rfl⟩
      rw [← hv] at gv
      have lc := fun S L => lv_cells P (Nat.le_refl n) S L
      simp -dsimp [g1, g4, g5, g6, g43, g44, g45, gv, lr, rl]
      refine ⟨by omega, ?_⟩
      have e1 := lv_es P (Nat.le_refl n) S []
      have e2 := stand_put v (S n)
      have e3 := lv_set P (Nat.le_refl n) S [] (putS v (S n))
      simp -dsimp [g1, g4, g5, g6, g43, g44, g45, gv, lc, e1, e2, e3]
      refine ⟨i + 1, by omega, ⟨_, rfl, fun j hj => ?_, fun j hj w hw => ?_, fun w hw => ?_⟩, wrapS (by omega), by omega⟩
      · by_cases e : j = n
        · subst e; rw [updS_same]; exact putS_nodup (s1 j hj)
        · rw [updS_ne _ _ e]; exact s1 j hj
      · by_cases e : j = n
        · rw [e, updS_same, putS_mem] at hw
          rcases hw with hw | rfl
          · exact ⟨e, (s2 n (Nat.le_refl _) w hw).2⟩
          · exact ⟨e, List.mem_of_getElem? gv⟩
        · rw [updS_ne _ _ e] at hw; exact s2 j hj w hw
      · rw [updS_same, putS_mem]
        rw [List.take_add_one, gv] at hw
        rcases List.mem_append.1 hw with hw | hw
        · exact .inl (s3 w hw)
        · right; simpa using hw
    · simp -dsimp [g1, g4, g5, g6]
      refine ⟨S, rfl, fun j hj => s1 j (by have := hn2.out; omega), fun j hj w hw => ?_, fun w hw => ?_⟩
      · obtain ⟨e, hr⟩ := s2 j (by have := hn2.out; omega) w hw
        rw [e, hn2.out]; exact .told hr
      · rw [← hn2.out]; exact s3 w (by rw [List.take_of_length_le (by omega)]; exact hw)
  clear g g1 g4 g5 g6
  rintro g _ ⟨⟨S0, rfl, hS0⟩, g1, g4, g5, g6⟩
  refine awp_cut (fun _ => false) (fun _ => none) (fun f M => Lv P n S0 [] = M ∧ f 1 = .bp H.length 0 ∧ f 4 = .hm a ∧ f 5 = I n ∧ f 6 = .hs P.length 0 (n + 1) (n + 1)) (by kernel_rfl) ?_ ?_
  · simp -dsimp [g1, g4, g5, g6]
  clear g g1 g4 g5 g6
  rintro g _ ⟨rfl, g1, g4, g5, g6⟩
  -- rounds
  refine awp_cutA (fun f M => (∃ S L, M = Lv P n S L ∧ GoodS l S ∧ ∀ i x, l.code[i]? = some x → ClosedAt l S i x) ∧ f 1 = .bp H.length 0 ∧ f 5 = I n ∧ f 6 = .hs P.length 0 (n + 1) (n + 1)) ?_ ?_
  · refine awp_block ?_
    refine awp_loopI (fun (k : Nat) f M => (∃ S L, M = Lv P n S L ∧ GoodS l S ∧ tot n S + k = (n + 1) * l.vars.toNat) ∧ f 1 = .bp H.length 0 ∧ f 4 = .hm a ∧ f 5 = I n ∧ f 6 = .hs P.length 0 (n + 1) (n + 1)) (fun k => k) ((n + 1) * l.vars.toNat - tot n S0)
      ⟨⟨S0, [], rfl, hS0, by have := hS0.tot_le ho; rw [← hn2.out] at this; omega⟩, g1, g4, g5, g6⟩ ?_
    clear g g1 g4 g5 g6 hS0 S0
    rintro k g _ ⟨⟨S0, L0, rfl, hS0, hk⟩, g1, g4, g5, g6⟩
    refine awp_block ?_
    refine awp_cut (fun _ => false) (fun _ => none) (fun f M => Lv P n S0 L0 = M ∧ f 1 = .bp H.length 0 ∧ f 4 = .hm a ∧ f 5 = I n ∧ f 6 = .hs P.length 0 (n + 1) (n + 1) ∧ f 10 = Bo false) (by kernel_rfl) ?_ ?_
    · simp -dsimp [g1, g4, g5, g6]
    clear g g1 g4 g5 g6
    rintro g _ ⟨rfl, g1, g4, g5, g6, g10⟩
    -- one round
    refine awp_cutA (fun f M => LiveI l P n S0 0 (f 10) M ∧ f 1 = .bp H.length 0 ∧ f 4 = .hm a ∧ f 5 = I n ∧ f 6 = .hs P.length 0 (n + 1) (n + 1)) ?_ ?_
    · refine awp_cut (fun _ => false) (fun _ => none) (fun f M => Lv P n S0 L0 = M ∧ f 1 = .bp H.length 0 ∧ f 4 = .hm a ∧ f 5 = I n ∧ f 6 = .hs P.length 0 (n + 1) (n + 1) ∧ f 10 = Bo false ∧ f 11 = I ((n : Int) - 1)) (by kernel_rfl) ?_ ?_
      · have hw : IntKind.i64.wrap ((n : Int) - 1) = (n : Int) - 1 := by unfold IntKind.wrap; simp [IntKind.bits, IntKind.signed]; omega
        simp -dsimp [g1, g4, g5, g6, g10, hw]
      clear g g1 g4 g5 g6 g10
      rintro g _ ⟨rfl, g1, g4, g5, g6, g10, g11⟩
      refine awp_block ?_
      refine awp_loopI (fun (m : Nat) f M => LiveI l P n S0 m (f 10) M ∧ f 1 = .bp H.length 0 ∧ f 4 = .hm a ∧ f 5 = I n ∧ f 6 = .hs P.length 0 (n + 1) (n + 1) ∧ f 11 = I ((m : Int) - 1) ∧ m ≤ n) (fun m => m) n
        ⟨⟨S0, L0, false, rfl, hS0, Nat.le_refl _, fun h => (by cases h), g10, fun _ j x hj hx => by have := (List.getElem?_eq_some_iff.1 hx).1; have := hn2.out; omega⟩, g1, g4, g5, g6, g11, Nat.le_refl _⟩ ?_
      clear g g1 g4 g5 g6 g10 g11 hS0 hk L0
      rintro m g _ ⟨⟨S1, L1, c1, rfl, hS1, ht1, hc1, g10, hcl1⟩, g1, g4, g5, g6, g11, hm1⟩
      refine awp_cut (fun _ => false) (fun _ => none) (fun f M => Lv P n S1 L1 = M ∧ f 1 = .bp H.length 0 ∧ f 4 = .hm a ∧ f 5 = I n ∧ f 6 = .hs P.length 0 (n + 1) (n + 1) ∧ f 10 = Bo c1 ∧ f 11 = I ((m : Int) - 1) ∧ 0 < m) (by kernel_rfl) ?_ ?_
      · simp -dsimp [g1, g4, g5, g6, g10, g11]
        refine condVW_introD (fun hlt => ?_) (fun hlt => ?_)
        · simp -dsimp [g1, g4, g5, g6, g10, g11]
          omega
        · simp -dsimp [g1, g4, g5, g6, g10, g11]
          obtain rfl : m = 0 := by omega
          exact ⟨S1, L1, c1, rfl, hS1, ht1, hc1, rfl, hcl1⟩
      clear g g1 g4 g5 g6 g10 g11
      rintro g _ ⟨rfl, g1, g4, g5, g6, g10, g11, hm0⟩
      obtain ⟨i, rfl⟩ : ∃ i, m = i + 1 := ⟨m - 1, by omega⟩
      have ei : ((i + 1 : Nat) : Int) - 1 = (i : Int) := by omega
      rw [ei] at g11
      obtain ⟨x, hx⟩ : ∃ x, l.code[i]? = some x := ⟨_, List.getElem?_eq_getElem (by omega)⟩
      have hin : i < l.code.length := (List.getElem?_eq_some_iff.1 hx).1
      have hdn : i ≤ n := by omega
      refine awp_cutA (fun f M => StI l P n S0 S1 c1 (ClosedAt l S1 i x) (f 10) M ∧ f 1 = .bp H.length 0 ∧ f 4 = .hm a ∧ f 5 = I n ∧ f 6 = .hs P.length 0 (n + 1) (n + 1) ∧ f 11 = I i) ?_ ?_
      rotate_left
      · clear g g1 g4 g5 g6 g10 g11
        rintro g M ⟨⟨S, L, c, rfl, hS, ht, hc, g10, hcl⟩, g1, g4, g5, g6, g11⟩
        have hw : IntKind.i64.wrap ((i : Int) - 1) = (i : Int) - 1 := wrapI (by omega) (by omega)
        refine awp_all (fun _ => false) (fun _ => none) (by kernel_rfl) ?_
        simp -dsimp [g1, g4, g5, g6, g10, g11, hw]
        refine ⟨i, by omega, ⟨S, L, c, rfl, hS, ht, hc, rfl, fun h j y hj hy => ?_⟩, rfl, by omega⟩
        obtain ⟨q1, q2, q3⟩ := hcl h
        by_cases e : j = i
        · subst e
          rw [hx, Option.some.injEq] at hy
          rw [q2, ← hy]; exact q3
        · rw [q2]; exact hcl1 q1 j y (by omega) hy
      refine awp_block ?_
      have cu := fun H => uses_ok x H
      simp only [Line.cells] at cu
      refine awp_cut (fun _ => false) (fun _ => none) (fun f M => Lv P n S1 L1 = M ∧ f 1 = .bp H.length 0 ∧ f 4 = .hm a ∧ f 5 = I n ∧ f 6 = .hs P.length 0 (n + 1) (n + 1) ∧ f 10 = Bo c1 ∧ f 11 = I i ∧ f 12 = Int.sl x.uses ∧ f 13 = Int.sl x.defs) (by kernel_rfl) ?_ ?_
      · simp -dsimp [g1, g4, g5, g6, g10, g11, lb, hx]
        refine acallsW_det (cu _) ?_
        simp -dsimp [g1, g4, g5, g6, g10, g11, lb, hx]
      clear g g1 g4 g5 g6 g10 g11
      rintro g _ ⟨rfl, g1, g4, g5, g6, g10, g11, g12, g13⟩
      have ul := uses_len x
      have dl := defs_len x
      have cn := fun H h => next_ok l ho (by omega) i a hin H h
      simp only [Linear.cells] at cn
      refine awp_cutA (fun f M => StI l P n S0 S1 c1 (KsI l i x S1 (nxt l i).length) (f 10) M ∧ f 1 = .bp H.length 0 ∧ f 4 = .hm a ∧ f 5 = I n ∧ f 6 = .hs P.length 0 (n + 1) (n + 1) ∧ f 11 = I i ∧ f 12 = Int.sl x.uses) ?_ ?_
      · refine awp_cut (fun _ => false) (fun _ => none) (fun f M => Lv P n S1 L1 = M ∧ f 1 = .bp H.length 0 ∧ f 4 = .hm a ∧ f 5 = I n ∧ f 6 = .hs P.length 0 (n + 1) (n + 1) ∧ f 10 = Bo c1 ∧ f 11 = I i ∧ f 12 = Int.sl x.uses ∧ f 13 = Int.sl x.defs ∧ f 74 = Int.sl (nxt l i) ∧ f 75 = I (nxt l i).length ∧ f 76 = I 0) (by kernel_rfl) ?_ ?_
        · simp -dsimp [g1, g4, g5, g6, g10, g11, g12, g13, lb]
          refine acallsW_det (cn _ (lm _ _)) ?_
          simp -dsimp [g1, g4, g5, g6, g10, g11, g12, g13]
        clear g g1 g4 g5 g6 g10 g11 g12 g13
        rintro g _ ⟨rfl, g1, g4, g5, g6, g10, g11, g12, g13, g74, g75, g76⟩
        refine awp_block ?_
        refine awp_loopI (fun (q : Nat) f M => StI l P n S0 S1 c1 (KsI l i x S1 q) (f 10) M ∧ f 1 = .bp H.length 0 ∧ f 4 = .hm a ∧ f 5 = I n ∧ f 6 = .hs P.length 0 (n + 1) (n + 1) ∧ f 11 = I i ∧ f 12 = Int.sl x.uses ∧ f 13 = Int.sl x.defs ∧ f 74 = Int.sl (nxt l i) ∧ f 75 = I (nxt l i).length ∧ f 76 = I q ∧ q ≤ (nxt l i).length) (fun q => (nxt l i).length - q) 0
          ⟨⟨S1, L1, c1, rfl, hS1, ht1, hc1, g10, fun h => ⟨h, rfl, fun k hk => by simp at hk⟩⟩, g1, g4, g5, g6, g11, g12, g13, g74, g75, g76, Nat.zero_le _⟩ ?_
        clear g g1 g4 g5 g6 g10 g11 g12 g13 g74 g75 g76 cn cu
        rintro q g M ⟨hst, g1, g4, g5, g6, g11, g12, g13, g74, g75, g76, hq⟩
        refine awp_cut (fun _ => false) (fun _ => none) (fun f M => StI l P n S0 S1 c1 (KsI l i x S1 q) (f 10) M ∧ f 1 = .bp H.length 0 ∧ f 4 = .hm a ∧ f 5 = I n ∧ f 6 = .hs P.length 0 (n + 1) (n + 1) ∧ f 11 = I i ∧ f 12 = Int.sl x.uses ∧ f 13 = Int.sl x.defs ∧ f 74 = Int.sl (nxt l i) ∧ f 75 = I (nxt l i).length ∧ f 76 = I q ∧ f 77 = Bo (decide ((q : Int) < (nxt l i).length))) (by kernel_rfl) ?_ ?_
        · simp -dsimp [g1, g4, g5, g6, g11, g12, g13, g74, g75, g76, hst]
        clear g1 g4 g5 g6 g11 g12 g13 g74 g75 g76 hst M g
        rintro g M ⟨hst, g1, g4, g5, g6, g11, g12, g13, g74, g75, g76, g77⟩
        refine awp_cut (fun _ => false) (fun _ => none) (fun f M => StI l P n S0 S1 c1 (KsI l i x S1 q) (f 10) M ∧ f 1 = .bp H.length 0 ∧ f 4 = .hm a ∧ f 5 = I n ∧ f 6 = .hs P.length 0 (n + 1) (n + 1) ∧ f 11 = I i ∧ f 12 = Int.sl x.uses ∧ f 13 = Int.sl x.defs ∧ f 74 = Int.sl (nxt l i) ∧ f 75 = I (nxt l i).length ∧ f 76 = I q ∧ q < (nxt l i).length) (by kernel_rfl) ?_ ?_
        · simp -dsimp [g77]
          refine condVW_introD (fun hlt => ?_) (fun hlt => ?_)
          · simp -dsimp [g1, g4, g5, g6, g11, g12, g13, g74, g75, g76, hst]
            omega
          · have : q = (nxt l i).length := by omega
            subst this
            simp -dsimp [g1, g4, g5, g6, g11, g12, g13, g74, g75, g76, hst]
        clear g1 g4 g5 g6 g11 g12 g13 g74 g75 g76 g77 hst M g hq
        rintro g M ⟨hst, g1, g4, g5, g6, g11, g12, g13, g74, g75, g76, hq⟩
        refine awp_cutA (fun f M => StI l P n S0 S1 c1 (KsI l i x S1 (q + 1)) (f 10) M ∧ f 1 = .bp H.length 0 ∧ f 4 = .hm a ∧ f 5 = I n ∧ f 6 = .hs P.length 0 (n + 1) (n + 1) ∧ f 11 = I i ∧ f 12 = Int.sl x.uses ∧ f 13 = Int.sl x.defs ∧ f 74 = Int.sl (nxt l i) ∧ f 75 = I (nxt l i).length ∧ f 76 = I q) ?_ ?_
        rotate_left
        · clear g1 g4 g5 g6 g11 g12 g13 g74 g75 g76 hst M g
          rintro g M ⟨hst, g1, g4, g5, g6, g11, g12, g13, g74, g75, g76⟩
          refine awp_all (fun _ => false) (fun _ => none) (by kernel_rfl) ?_
          simp -dsimp [g1, g4, g5, g6, g11, g12, g13, g74, g75, g76]
          exact ⟨q + 1, by omega, hst, wrapS (by have := nxt_len l i; omega), by omega⟩
        obtain ⟨S2, L2, c2, rfl, hS2, ht2, hc2, g10, hcl2⟩ := hst
        refine awp_block ?_
        have hgk := List.getElem?_eq_getElem hq
        have hkm : (nxt l i)[q] ∈ nxt l i := List.getElem_mem hq
        have hki := nxt_in ho hkm
        have hkn := nxt_ne ho hkm
        have htk : (nxt l i).take (q + 1) = (nxt l i).take q ++ [(nxt l i)[q]] := List.take_succ_eq_append_getElem hq
        obtain ⟨kz, hkz⟩ : ∃ kz, kz = (nxt l i)[q] := ⟨_, rfl⟩
        rw [← hkz] at hgk hkm hki hkn htk
        clear hkz
        obtain ⟨k, rfl⟩ : ∃ k : Nat, kz = k := ⟨kz.toNat, by omega⟩
        have hkn' : k ≤ n := by omega
        have hkne : k ≠ i := by omega
        refine awp_cut (fun _ => false) (fun _ => none) (fun f M => Lv P n S2 L2 = M ∧ f 1 = .bp H.length 0 ∧ f 4 = .hm a ∧ f 5 = I n ∧ f 6 = .hs P.length 0 (n + 1) (n + 1) ∧ f 10 = Bo c2 ∧ f 11 = I i ∧ f 12 = Int.sl x.uses ∧ f 13 = Int.sl x.defs ∧ f 74 = Int.sl (nxt l i) ∧ f 75 = I (nxt l i).length ∧ f 76 = I q ∧ f 15 = I k) (by kernel_rfl) ?_ ?_
        · simp -dsimp [g1, g4, g5, g6, g10, g11, g12, g13, g74, g75, g76, hgk]
        clear g1 g4 g5 g6 g10 g11 g12 g13 g74 g75 g76 g
        rintro g _ ⟨rfl, g1, g4, g5, g6, g10, g11, g12, g13, g74, g75, g76, g15⟩
        obtain ⟨it, hit⟩ : ∃ it, it = P.length + 1 + (n + 1) + L2.length := ⟨_, rfl⟩
        refine awp_cut (fun _ => false) (fun _ => none) (fun f M => Lv P n S2 (L2 ++ [.it (some (P.length + 1 + k)) (S2 k).length []]) = M ∧ f 1 = .bp H.length 0 ∧ f 4 = .hm a ∧ f 5 = I n ∧ f 6 = .hs P.length 0 (n + 1) (n + 1) ∧ f 10 = Bo c2 ∧ f 11 = I i ∧ f 12 = Int.sl x.uses ∧ f 13 = Int.sl x.defs ∧ f 74 = Int.sl (nxt l i) ∧ f 75 = I (nxt l i).length ∧ f 76 = I q ∧ f 15 = I k ∧ f 84 = .hi it) (by kernel_rfl) ?_ ?_
        · have lc := fun S L => lv_cells P hkn' S L
          have le := fun S L => lv_es P hkn' S L
          have lln := lv_len P n S2 L2
          rw [← hit] at lln
          have la := fun X => lv_app P n S2 L2 X
          have sl := stand_len (S2 k)
          simp -dsimp [g1, g4, g5, g6, g10, g11, g12, g13, g74, g75, g76, g15, lr, rl]
          refine ⟨by omega, ?_⟩
          simp -dsimp [g1, g4, g5, g6, g10, g11, g12, g13, g74, g75, g76, g15, lc, le, lln, la, sl]
        clear g1 g4 g5 g6 g10 g11 g12 g13 g74 g75 g76 g15 g
        rintro g _ ⟨rfl, g1, g4, g5, g6, g10, g11, g12, g13, g74, g75, g76, g15, g84⟩
        obtain ⟨T, hT⟩ : ∃ T, T = S2 k := ⟨_, rfl⟩
        rw [← hT]
        refine awp_block ?_
        refine awp_loopI (fun (s : List Nat) f M => MapI l P n S0 S1 c1 (KsI l i x S1 q) i k x T L2 s (f 10) M ∧ f 1 = .bp H.length 0 ∧ f 4 = .hm a ∧ f 5 = I n ∧ f 6 = .hs P.length 0 (n + 1) (n + 1) ∧ f 11 = I i ∧ f 12 = Int.sl x.uses ∧ f 13 = Int.sl x.defs ∧ f 74 = Int.sl (nxt l i) ∧ f 75 = I (nxt l i).length ∧ f 76 = I q ∧ f 84 = .hi it ∧ s.Nodup ∧ ∀ j ∈ s, j < T.length) (fun s => T.length - s.length) []
          ⟨⟨S2, c2, rfl, hT.symm, hS2, ht2, hc2, g10, fun h => let ⟨a, b, c⟩ := hcl2 h; ⟨a, b, c, fun j hj => by cases hj⟩⟩, g1, g4, g5, g6, g11, g12, g13, g74, g75, g76, g84, List.nodup_nil, fun j hj => by cases hj⟩ ?_
        clear g g1 g4 g5 g6 g10 g11 g12 g13 g74 g75 g76 g15 g84 hS2 ht2 hc2 hcl2 hT S2 c2
        rintro s g _ ⟨⟨S2, c2, rfl, hT, hS2, ht2, hc2, g10, hcl2⟩, g1, g4, g5, g6, g11, g12, g13, g74, g75, g76, g84, hs1, hs2⟩
        have ccon := fun v H => int_contains x.defs v (by omega) H
        simp only [any_has] at ccon
        have mk := fun S s => lv_map P hkn' S (L2 ++ [.it (some (P.length + 1 + k)) T.length s])
        have jk := fun S s => lv_junk P n S L2 [] (.it (some (P.length + 1 + k)) T.length s)
        have js := fun S s c => lv_junkset P n S L2 [] (.it (some (P.length + 1 + k)) T.length s) c
        rw [← hit] at jk js
        have sl : (stand (S2 k)).length = T.length := by rw [stand_len, hT]
        refine awp_all (fun _ => false) (fun _ => none) (by kernel_rfl) ?_
        simp -dsimp [g84]
        refine nextVW_intro (jk S2 s) (mk S2 s) sl (fun j p hj hp => ?_) (fun hall => ?_)
        · have hp' := hp
          simp only [stand, hT, List.getElem?_map] at hp'
          obtain ⟨v, hv, rfl⟩ := Option.map_eq_some_iff.1 hp'
          have hjl : j < T.length := (List.getElem?_eq_some_iff.1 hv).1
          rw [js]
          have hlt := nodup_less hs1 hs2 hj hjl
          obtain ⟨q1, q2⟩ := nodup_snoc hs1 hs2 hj hjl
          have hs1 := Hid.mk hs1
          have hs2 := Hid.mk hs2
          simp -dsimp [g84]
          refine entryVW_intro (jk S2 (s ++ [j])) (mk S2 (s ++ [j])) sl hp ?_
          simp -dsimp [g1, g4, g5, g6, g10, g11, g12, g13, g74, g75, g76, g84]
          refine acallsW_det (ccon v _) ?_
          have hf := stand_find v (S2 i)
          have lci := fun S L => lv_cells P hdn S L
          have lei := fun S L => lv_es P hdn S L
          have rdone : (v ∉ x.defs → v ∈ S2 i) → ∃ y, T.length - y.length < T.length - s.length ∧ MapI l P n S0 S1 c1 (KsI l i x S1 q) i k x T L2 y (Bo c2) (Lv P n S2 (L2 ++ [.it (some (P.length + 1 + k)) T.length (s ++ [j])])) ∧ y.Nodup ∧ ∀ j ∈ y, j < T.length := fun hin => by
            refine ⟨s ++ [j], by simp; omega, ⟨S2, c2, rfl, hT, hS2, ht2, hc2, rfl, fun h => ?_⟩, q1, q2⟩
            obtain ⟨a1, a2, a3, a4⟩ := hcl2 h
            refine ⟨a1, a2, a3, fun j' hj' w hw hd => ?_⟩
            rcases List.mem_append.1 hj' with hj' | hj'
            · exact a4 j' hj' w hw hd
            · rw [List.mem_singleton] at hj'
              subst hj'
              rw [hv, Option.some.injEq] at hw
              subst hw
              rw [← a2]; exact hin hd
          replace rdone := Hid.mk rdone
          have hcl2 := Hid.mk hcl2
          have hc2 := Hid.mk hc2
          have hj := Hid.mk hj
          have hv := Hid.mk hv
          by_cases hd : v ∈ x.defs
          · simp -dsimp [g1, g4, g5, g6, g10, g11, g12, g13, g74, g75, g76, g84, hd]
            exact rdone.out (fun h => absurd hd h)
          simp -dsimp [g1, g4, g5, g6, g10, g11, g12, g13, g74, g75, g76, g84, hd, lr, rl]
          refine ⟨by omega, ?_⟩
          by_cases hvi : v ∈ S2 i
          · rw [if_pos hvi] at hf
            simp -dsimp [g1, g4, g5, g6, g10, g11, g12, g13, g74, g75, g76, g84, hd, lci, lei, hf]
            exact rdone.out (fun _ => hvi)
          · rw [if_neg hvi] at hf
            simp -dsimp [g1, g4, g5, g6, g10, g11, g12, g13, g74, g75, g76, g84, hd, lci, lei, hf, lr, rl]
            refine ⟨by omega, ?_⟩
            have hent := stand_ent v (S2 i) hvi
            have hmi := midx_stand v (S2 i) hvi
            have hsf := stand_fin v (S2 i)
            obtain ⟨N, hN⟩ : ∃ N, N = Lv P n S2 (L2 ++ [.it (some (P.length + 1 + k)) T.length (s ++ [j])]) := ⟨_, rfl⟩
            have eN : mapEs N (.hm (P.length + 1 + i)) = some (stand (S2 i)) := by rw [hN]; exact lei _ _
            have cN : cellsAt N (.rp P.length (n + 1) i 0) = some [.hm (P.length + 1 + i)] := by rw [hN]; exact lci _ _
            have eN2 : ∀ X, mapEs (N.set (P.length + 1 + i) (.map X)) (.hm (P.length + 1 + i)) = some X := fun X => by
              have hl : P.length + 1 + i < N.length := by rw [hN, lv_len]; omega
              simp [mapEs, hl]
            have sN : N.set (P.length + 1 + i) (.map (stand (S2 i ++ [v]))) = Lv P n (updS S2 i (S2 i ++ [v])) (L2 ++ [.it (some (P.length + 1 + k)) T.length (s ++ [j])]) := by rw [hN]; exact lv_set P hdn _ _ _
            have hsl := stand_len (S2 i)
            rw [← hN]
            simp -dsimp [g1, g4, g5, g6, g10, g11, g12, g13, g74, g75, g76, g84, cN, eN, hf, hent, hmi, eN2, hsl, hsf, sN]
            refine ⟨by omega, ?_⟩
            simp -dsimp [g1, g4, g5, g6, g10, g11, g12, g13, g74, g75, g76, g84, hsf, sN]
            have hvl : LiveAt l i v := .way hx hd hkm (hS2.live k (by omega) v (by rw [hT]; exact List.mem_of_getElem? hv.out))
            refine ⟨s ++ [j], by simp; omega, ⟨_, true, rfl, by rw [updS_ne _ _ hkne]; exact hT, hS2.add (by omega) hvi hvl, by rw [tot_add hdn]; omega, fun _ => by rw [tot_add hdn]; omega, rfl, fun h => by cases h⟩, q1, q2⟩
        · simp -dsimp [g1, g4, g5, g6, g10, g11, g12, g13, g74, g75, g76]
          refine ⟨S2, _, c2, rfl, hS2, ht2, hc2, rfl, fun h => ?_⟩
          obtain ⟨a1, a2, a3, a4⟩ := hcl2 h
          refine ⟨a1, a2, fun k' hk' v hv hd => ?_⟩
          rw [htk] at hk'
          rcases List.mem_append.1 hk' with hk' | hk'
          · exact a3 k' hk' v hv hd
          · rw [List.mem_singleton] at hk'
            subst hk'
            rw [Int.toNat_natCast, ← a2, hT] at hv
            obtain ⟨j, hj⟩ := List.mem_iff_getElem?.1 hv
            exact a4 j (hall j (List.getElem?_eq_some_iff.1 hj).1) v hj hd
      clear g g1 g4 g5 g6 g10 g11 g12 g13 cn cu dl
      rintro g M ⟨hst, g1, g4, g5, g6, g11, g12⟩
      refine awp_cut (fun _ => false) (fun _ => none) (fun f M => StI l P n S0 S1 c1 (KsI l i x S1 (nxt l i).length) (f 10) M ∧ f 1 = .bp H.length 0 ∧ f 4 = .hm a ∧ f 5 = I n ∧ f 6 = .hs P.length 0 (n + 1) (n + 1) ∧ f 11 = I i ∧ f 112 = Int.sl x.uses ∧ f 113 = I x.uses.length ∧ f 114 = I 0) (by kernel_rfl) ?_ ?_
      · simp -dsimp [g1, g4, g5, g6, g11, g12, hst]
      clear g1 g4 g5 g6 g11 g12 hst M g
      rintro g M ⟨hst, g1, g4, g5, g6, g11, g112, g113, g114⟩
      refine awp_block ?_
      refine awp_loopI (fun (q : Nat) f M => StI l P n S0 S1 c1 (KsI l i x S1 (nxt l i).length ∧ ∀ v ∈ x.uses.take q, v ∈ S1 i) (f 10) M ∧ f 1 = .bp H.length 0 ∧ f 4 = .hm a ∧ f 5 = I n ∧ f 6 = .hs P.length 0 (n + 1) (n + 1) ∧ f 11 = I i ∧ f 112 = Int.sl x.uses ∧ f 113 = I x.uses.length ∧ f 114 = I q ∧ q ≤ x.uses.length) (fun q => x.uses.length - q) 0
        ⟨hst.weak fun h => ⟨h, fun v hv => by simp at hv⟩, g1, g4, g5, g6, g11, g112, g113, g114, Nat.zero_le _⟩ ?_
      clear g1 g4 g5 g6 g11 g112 g113 g114 hst M g
      rintro q g _ ⟨⟨S2, L2, c2, rfl, hS2, ht2, hc2, g10, hcl2⟩, g1, g4, g5, g6, g11, g112, g113, g114, hq⟩
      refine awp_all (fun _ => false) (fun _ => none) (by kernel_rfl) ?_
      have lci := fun S L => lv_cells P hdn S L
      have lei := fun S L => lv_es P hdn S L
      simp -dsimp [g113, g114]
      refine condVW_introD (fun hlt => ?_) (fun hlt => ?_)
      · have hlt' : q < x.uses.length := by omega
        have hgk := List.getElem?_eq_getElem hlt'
        have htk : x.uses.take (q + 1) = x.uses.take q ++ [x.uses[q]] := List.take_succ_eq_append_getElem hlt'
        have hvm : x.uses[q] ∈ x.uses := List.getElem_mem hlt'
        obtain ⟨v, hv⟩ : ∃ v, v = x.uses[q] := ⟨_, rfl⟩
        rw [← hv] at hgk htk hvm
        have hvr : v ∈ x.raw := (riseL_mem _ _).1 hvm
        have hf := stand_find v (S2 i)
        simp -dsimp [g1, g4, g5, g6, g10, g11, g112, g113, g114, hgk, lr, rl]
        refine ⟨by omega, ?_⟩
        by_cases hvi : v ∈ S2 i
        · rw [if_pos hvi] at hf
          simp -dsimp [g1, g4, g5, g6, g10, g11, g112, g113, g114, hgk, lci, lei, hf]
          refine ⟨q + 1, by omega, ⟨S2, L2, c2, rfl, hS2, ht2, hc2, rfl, fun h => ?_⟩, wrapS (by omega), by omega⟩
          obtain ⟨a1, a2, a3, a4⟩ := hcl2 h
          refine ⟨a1, a2, a3, fun w hw => ?_⟩
          rw [htk] at hw
          rcases List.mem_append.1 hw with hw | hw
          · exact a4 w hw
          · rw [List.mem_singleton] at hw; subst hw; rw [← a2]; exact hvi
        · rw [if_neg hvi] at hf
          have hent := stand_ent v (S2 i) hvi
          have hmi := midx_stand v (S2 i) hvi
          have hsf := stand_fin v (S2 i)
          simp -dsimp [g1, g4, g5, g6, g10, g11, g112, g113, g114, hgk, lci, lei, hf, lr, rl]
          refine ⟨by omega, ?_⟩
          obtain ⟨N, hN⟩ : ∃ N, N = Lv P n S2 L2 := ⟨_, rfl⟩
          have eN : mapEs N (.hm (P.length + 1 + i)) = some (stand (S2 i)) := by rw [hN]; exact lei _ _
          have cN : cellsAt N (.rp P.length (n + 1) i 0) = some [.hm (P.length + 1 + i)] := by rw [hN]; exact lci _ _
          have eN2 : ∀ X, mapEs (N.set (P.length + 1 + i) (.map X)) (.hm (P.length + 1 + i)) = some X := fun X => by
            have hl : P.length + 1 + i < N.length := by rw [hN, lv_len]; omega
            simp [mapEs, hl]
          have sN : N.set (P.length + 1 + i) (.map (stand (S2 i ++ [v]))) = Lv P n (updS S2 i (S2 i ++ [v])) L2 := by rw [hN]; exact lv_set P hdn _ _ _
          have hsl := stand_len (S2 i)
          rw [← hN]
          simp -dsimp [g1, g4, g5, g6, g10, g11, g112, g113, g114, cN, eN, hf, hent, hmi, eN2, hsl, hsf, sN]
          refine ⟨by omega, ?_⟩
          simp -dsimp [g1, g4, g5, g6, g10, g11, g112, g113, g114, hsf, sN]
          exact ⟨q + 1, by omega, ⟨_, L2, true, rfl, hS2.add (by omega) hvi (.read hx hvr), by rw [tot_add hdn]; omega, fun _ => by rw [tot_add hdn]; omega, rfl, fun h => by cases h⟩, wrapS (by omega), by omega⟩
      · simp -dsimp [g1, g4, g5, g6, g10, g11, g112, g113, g114]
        refine ⟨S2, L2, c2, rfl, hS2, ht2, hc2, rfl, fun h => ?_⟩
        obtain ⟨a1, a2, a3, a4⟩ := hcl2 h
        refine ⟨a1, a2, fun k hk v hv hd => a3 k (by rw [List.take_of_length_le (Nat.le_refl _)]; exact hk) v hv hd, fun v hv => a4 v ?_⟩
        rw [List.take_of_length_le (by omega)]
        exact (riseL_mem _ _).2 hv
    clear g g1 g4 g5 g6 g10
    rintro g _ ⟨⟨S, L, c, rfl, hS, ht, hc, g10, hcl⟩, g1, g4, g5, g6⟩
    refine awp_all (fun _ => false) (fun _ => none) (by kernel_rfl) ?_
    have hle := hS.tot_le ho
    rw [← hn2.out] at hle
    cases c with
    | true =>
      simp -dsimp [g1, g4, g5, g6, g10]
      have := hc rfl
      exact ⟨(n + 1) * l.vars.toNat - tot n S, by omega, ⟨S, ⟨L, rfl⟩, hS, by omega⟩⟩
    | false =>
      simp -dsimp [g1, g4, g5, g6, g10]
      exact ⟨S, ⟨L, rfl⟩, hS, fun i x hx => hcl rfl i x (by omega) hx⟩
  clear g g1 g4 g5 g6 hS0 S0
  rintro g _ ⟨⟨S, L, rfl, hS, hcl⟩, g1, g5, g6⟩
  obtain ⟨N, hN⟩ : ∃ N, N = Lv P n S L := ⟨_, rfl⟩
  have Nr := lr S L
  have Nc := fun j (hj : j ≤ n) => lv_cells P hj S L
  have Nm := fun j (hj : j ≤ n) => lv_map P hj S L
  have Nrise : ∀ i, i ≤ n → riseL (S i) = liveL l i := fun i hi => hS.rise ho hcl (by omega)
  have Nlen : ∀ i, i ≤ n → (S i).length ≤ 2^40 := fun i hi => by
    have h1 := nodup_lenI _ _ (hS.once i (by omega)) fun v hv => by
      have := (live_in ho (hS.live i (by omega) v hv)).1
      exact ⟨this.1, (by omega : v < (l.vars.toNat : Int))⟩
    have := ho.vars.2
    omega
  have Nnd : ∀ i, i ≤ n → (S i).Nodup := fun i hi => hS.once i (by omega)
  have hNH : ∃ X, N = H ++ X := by rw [hN]; unfold Lv; rw [hP.out, hB.out]; simp only [List.append_assoc]; exact ⟨_, rfl⟩
  rw [← hN] at Nr Nc Nm ⊢
  clear lr lb lm hN hS hcl
  refine awp_cut (fun _ => false) (fun _ => none) (fun f M => N = M ∧ f 5 = I n ∧ f 6 = .hs P.length 0 (n + 1) (n + 1) ∧ f 19 = nilS) (by kernel_rfl) ?_ ?_
  · simp -dsimp [g1, g5, g6]
  clear g g1 g5 g6
  rintro g _ ⟨rfl, g5, g6, g19⟩
  have hll : (lvL l).length = n := by unfold lvL; simp; omega
  have hlg : ∀ i, i < n → (lvL l)[i]? = some (liveL l i) := fun i hi => by unfold lvL; rw [List.getElem?_map, List.getElem?_range (by omega)]; rfl
  refine awp_cut (fun d => d == 149) (fun _ => none) (fun f M => ∃ h, f 19 = hrow h n ∧ OwnLs N M h (lvL l)) (by kernel_rfl) ?_ ?_
  · simp -dsimp [g5, g6, g19]
    refine loop_rule (hn := fun d => d == 149) (od := fun _ => none) (fun (i : Nat) f M => (∃ h, f 19 = hrow h i ∧ OwnLs N M h ((lvL l).take i)) ∧ f 5 = I n ∧ f 6 = .hs P.length 0 (n + 1) (n + 1) ∧ f 137 = I n ∧ f 138 = I i ∧ i ≤ n) (fun i => n - i) (by kernel_rfl) 0 ⟨⟨none, by simp [g19]; rfl, .nil1 _ _ _⟩, by simp [g5, g6]⟩ ?_
    clear g g5 g6 g19
    rintro i g M ⟨⟨h, g19, ow⟩, g5, g6, g137, g138, hi⟩
    simp -dsimp [g137, g138]
    refine condVW_introD (fun hlt => ?_) (fun hlt => ?_)
    · have hlt' : i < n := by omega
      have hgi := hlg i hlt'
      have r1 := ow.old Nr
      have r2 : cellsAt M (.rp P.length (n + 1) i 0) = some [.hm (P.length + 1 + i)] := by simp [cellsAt, r1, rl, liveRow_get (show i < n + 1 by omega)]
      have r3 := ow.old (Nm i (by omega))
      have ck := imkeys_ok (P.length + 1 + i) M
      have cs := isorted_give (S i) (Nnd i (by omega)) (Nlen i (by omega)) (P.length + 1 + i) M.length (M ++ [.box 88 [.hm (P.length + 1 + i)]]) (by simp) (get_app_old r3 _)
      rw [Nrise i (by omega)] at cs
      have hi' := Hid.mk hi
      simp -dsimp [g5, g6, g19, g137, g138, r1, rl]
      refine ⟨by omega, ?_⟩
      simp -dsimp [g5, g6, g19, g137, g138, r2]
      refine acallsW_of ck ?_
      rintro e _ ⟨rfl, rfl⟩
      simp -dsimp [g5, g6, g19, g137, g138]
      refine acallsW_det cs ?_
      simp -dsimp [g5, g6, g19, g137, g138]
      refine app_own (ow.app [.box 88 [.hm (P.length + 1 + i)]]) (by simp; omega) rfl rfl (by simp; omega) (by simp; omega) ?_
      intro h' M' ow' _
      have htk : (lvL l).take (i + 1) = (lvL l).take i ++ [liveL l i] := by rw [List.take_add_one, hgi]; rfl
      have ow2 : OwnLs N M' h' ((lvL l).take (i + 1)) := by unfold OwnLs; rw [htk, List.map_append]; exact ow'
      have hlen : (((lvL l).take i).map (fun x => [Int.sl x]) ++ [[Int.sl (liveL l i)]]).length = i + 1 := by simp; omega
      rw [show (AV.vs 1 (List.map (fun n => [I n]) (liveL l i))) = Int.sl (liveL l i) from rfl, hlen]
      simp -dsimp [g5, g6, g19, g137, g138]
      exact ⟨i + 1, by omega, ⟨h', rfl, ow2⟩, wrapS (by omega), by omega⟩
    · obtain rfl : i = n := by omega
      simp -dsimp [g19]
      exact ⟨h, rfl, by rw [List.take_of_length_le (by omega)] at ow; exact ow⟩
  clear g g5 g6 g19
  rintro g M ⟨h, g19, ow⟩
  refine awp_all (fun _ => false) (fun _ => none) (by kernel_rfl) ?_
  simp -dsimp [g19]
  obtain ⟨X, hX⟩ := hNH
  rw [hX] at ow
  exact tidy_rowAV hu.out ow.less (ints_frzB _) (by simp; omega) ⟨rfl, rfl⟩
theorem live_no (l : Linear) (hs : l.Sm) (hok : l.ok = false) (H : List Blk) : ACalls Tryz.prog 31 [.agg l.cells] H (fun e H' => e = .ret (.tup [nilS, I 2]) ∧ H' = H) := by
  refine acalls_tidy (acalls_of_awp Tryz.func31 rfl (by kernel_rfl) ?_)
  have c1 := linear_ok l (by have := hs.params; omega) (by have := hs.rets; omega) (by have := hs.code; omega)
  simp only [Linear.cells, hok] at c1
  obtain ⟨B, hB⟩ : ∃ B, B = H ++ [.box 25 l.cells] := ⟨_, rfl⟩
  have hb : B[H.length]? = some (.box 25 l.cells) := by rw [hB]; simp
  simp only [Linear.cells] at hb
  replace hB := Hid.mk hB
  refine awp_cut (fun _ => false) (fun _ => none) (fun f H' => B = H' ∧ f 1 = .bp H.length 0) (by kernel_rfl) ?_ ?_
  · simp -dsimp [hB.out]
  rintro g _ ⟨rfl, g1⟩
  refine awp_scope_r ?_
  refine awp_cut (fun _ => false) (fun _ => none) (fun f H' => False) (by kernel_rfl) ?_ ?_
  · simp -dsimp [g1, hb]
    refine acallsW_det (c1 _) ?_
    simp -dsimp [g1]
    rw [hB.out]
    exact tidy_same rfl ⟨rfl, rfl⟩
  · intro f M h; exact h.elim
end Go.Proofs
namespace Go.Proofs
open Go.Mu
theorem putI_at {n : Int} : ∀ {out : List Int} {k : Nat}, k ≤ out.length → (∀ j x, j < k → out[j]? = some x → x < n) → (∀ x, out[k]? = some x → n < x) → putI n out = out.take k ++ n :: out.drop k
  | [], k, hk, _, _ => by
    have : k = 0 := by simpa using hk
    subst this; rfl
  | x :: out, 0, _, _, h2 => by
    have := h2 x rfl
    rw [putI, if_neg (by omega), if_pos (by omega)]; rfl
  | x :: out, k + 1, hk, h1, h2 => by
    have h0 := h1 0 x (by omega) rfl
    rw [putI, if_neg (by omega), if_neg (by omega), putI_at (k := k) (by simpa using hk) (fun j y hj hy => h1 (j + 1) y (by omega) (by simpa using hy)) (fun y hy => h2 y (by simpa using hy))]
    rfl
theorem putI_has {n : Int} {out : List Int} {k : Nat} (hr : Rising out) (hx : out[k]? = some n) : putI n out = out := putI_in hr (List.mem_of_getElem? hx)
theorem riseL_len_take (l : List Int) (i : Nat) : (riseL (l.take i)).length ≤ l.length := by
  have := riseL_len (l.take i)
  simp at this; omega
def RowOr (H M : List Blk) (a : AV) (l : List Int) : Prop := (a = Int.sl l ∧ ∃ L, M = H ++ L) ∨ ∃ h, a = hrow h l.length ∧ OwnI H M h l
theorem awp_rowOr {n : Nat} {Q : AQ} {c : Code} {f : Fr} {N M : List Blk} {l : List Int} (s0 : Nat) (hu : underH N.length N = true) (hr : RowOr N M (f s0) l)
    (k : ∀ M' f', f' s0 = Int.sl l → (∃ L, M' = N ++ L) → (∀ s, s ≠ s0 → (f s).under N.length = true → f' s = f s) → AWP Tryz.prog n c Q f' M' []) : AWP Tryz.prog n c Q f M [] := by
  rcases hr with ⟨h1, h2⟩ | ⟨h, h1, h2⟩
  · exact k M f h1 h2 (fun _ _ _ => rfl)
  · exact awp_giveH s0 hu h2 (int_frzB l) h1 (map_len l).symm fun M' f' a b c _ => k M' f' a b c
def s6Hn (d : Nat) : Bool := d == 47 || d == 53 || d == 57
def s6Od (i : Nat) : Option OPlan := if i = 9 then some [(0, []), (1, []), (2, []), (4, []), (5, []), (6, []), (7, []), (8, []), (10, []), (11, []), (12, []), (3, [6, 7, 8, 12]), (9, [12]), (13, []), (14, [])] else none
def PlaceI (out : List Int) (n : Int) (k : Nat) : Prop := k ≤ out.length ∧ (∀ j x, j < k → out[j]? = some x → x < n) ∧ ∀ x, out[k]? = some x → ¬ x < n
theorem sorted16_ok (l : List Int) (hl : l.length ≤ 2^38) (H : List Blk) : ACalls Tryz.prog 104 [Int.sl l] H (fun e H' => e = .ret (Int.sl (riseL l)) ∧ H' = H) := by
  refine acalls_under fun hu _ => acalls_tidy (acalls_of_awp Tryz.func104 rfl (by kernel_rfl) ?_)
  have hu := Hid.mk hu
  refine awp_cut (fun _ => false) (fun _ => none) (fun f H' => H = H' ∧ f 0 = Int.sl l) (by kernel_rfl) ?_ ?_
  · simp -dsimp
  rintro g _ ⟨rfl, g0⟩
  refine awp_cut (fun _ => false) (fun _ => none) (fun f H' => H = H' ∧ f 0 = Int.sl l ∧ f 3 = nilS) (by kernel_rfl) ?_ ?_
  · simp -dsimp [g0]
  clear g g0
  rintro g _ ⟨rfl, g0, g3⟩
  refine awp_weak (f' := fun s => if s = 3 then .vs 1 [] else g s) (fun s => ?_) ?_
  · by_cases e : s = 3
    · subst e; simp only [if_true]; rw [g3]; exact .nil 1
    · simp only [e, if_false]; exact .refl _
  obtain ⟨f, hf⟩ : ∃ f : Fr, f = fun s => if s = 3 then .vs 1 [] else g s := ⟨_, rfl⟩
  have f0 : f 0 = Int.sl l := by rw [hf]; simpa using g0
  have f3 : f 3 = Int.sl (riseL (l.take 0)) := by rw [hf]; rfl
  rw [← hf]
  clear hf g0 g3 g
  refine awp_cutA (fun f M => (∃ L, M = H ++ L) ∧ f 3 = Int.sl (riseL l)) ?_ ?_
  rotate_left
  · rintro g _ ⟨⟨L, rfl⟩, g3⟩
    refine awp_all (fun _ => false) (fun _ => none) (by kernel_rfl) ?_
    simp -dsimp [g3]
    exact tidy_same rfl ⟨rfl, rfl⟩
  refine awp_cut (fun _ => false) (fun _ => none) (fun g M => H = M ∧ g 0 = Int.sl l ∧ g 3 = Int.sl (riseL (l.take 0)) ∧ g 4 = I 0) (by kernel_rfl) ?_ ?_
  · simp -dsimp [f0, f3]
  clear f0 f3 f
  rintro g _ ⟨rfl, g0, g3, g4⟩
  refine awp_block ?_
  refine awp_loopI (fun (i : Nat) f M => (∃ L, M = H ++ L) ∧ f 0 = Int.sl l ∧ f 3 = Int.sl (riseL (l.take i)) ∧ f 4 = I i ∧ i ≤ l.length) (fun i => l.length - i) 0 ⟨⟨[], by simp⟩, g0, g3, g4, Nat.zero_le _⟩ ?_
  clear g g0 g3 g4
  rintro i g _ ⟨⟨L, rfl⟩, g0, g3, g4, hi⟩
  have hrl := riseL_len_take l i
  have hri := riseL_rise (l.take i)
  obtain ⟨out, hout⟩ : ∃ out, out = riseL (l.take i) := ⟨_, rfl⟩
  rw [← hout] at g3 hrl hri
  have hout := Hid.mk hout
  refine awp_cut (fun _ => false) (fun _ => none) (fun f M => H ++ L = M ∧ f 0 = Int.sl l ∧ f 3 = Int.sl out ∧ f 4 = I i ∧ i < l.length) (by kernel_rfl) ?_ ?_
  · simp -dsimp [g0, g3, g4]
    refine condVW_introD (fun hlt => ?_) (fun hlt => ?_)
    · simp -dsimp [g0, g3, g4]
      omega
    · have : out = riseL l := by rw [hout.out, List.take_of_length_le (by omega)]
      simp -dsimp [g0, g3, g4, this]
  clear g g0 g3 g4
  rintro g _ ⟨rfl, g0, g3, g4, hlt⟩
  have hx := List.getElem?_eq_getElem hlt
  have hnew := riseL_take hlt
  rw [← hout.out] at hnew
  obtain ⟨n, hn⟩ : ∃ n, n = l[i] := ⟨_, rfl⟩
  rw [← hn] at hx hnew
  clear hn
  refine awp_cutA (fun f M => RowOr H M (f 3) (riseL (l.take (i + 1))) ∧ f 0 = Int.sl l ∧ f 4 = I i) ?_ ?_
  rotate_left
  · clear g g0 g3 g4
    rintro g M ⟨hro, g0, g4⟩
    refine awp_rowOr 3 hu.out hro fun M' f' f3 ⟨L, hM⟩ hf' => ?_
    have f0 : f' 0 = Int.sl l := by rw [hf' 0 (by omega) (by rw [g0]; rfl), g0]
    have f4 : f' 4 = I i := by rw [hf' 4 (by omega) (by rw [g4]; rfl), g4]
    subst hM
    clear g0 g4 hro hf' g
    obtain ⟨g, hg⟩ : ∃ g, g = f' := ⟨_, rfl⟩
    rw [← hg] at f0 f3 f4 ⊢
    have g0 := f0
    have g3 := f3
    have g4 := f4
    clear f0 f3 f4 hg
    refine awp_all (fun _ => false) (fun _ => none) (by kernel_rfl) ?_
    simp -dsimp [g0, g3, g4]
    exact ⟨i + 1, by omega, rfl, wrapS (by omega), by omega⟩
  rw [hnew]
  refine awp_block ?_
  refine awp_cut (fun _ => false) (fun _ => none) (fun f M => H ++ L = M ∧ f 0 = Int.sl l ∧ f 3 = Int.sl out ∧ f 4 = I i ∧ f 5 = I 0) (by kernel_rfl) ?_ ?_
  · simp -dsimp [g0, g3, g4]
  clear g g0 g3 g4
  rintro g _ ⟨rfl, g0, g3, g4, g5⟩
  -- where it belongs
  refine awp_cut (fun _ => false) (fun _ => none) (fun f M => ∃ k, H ++ L = M ∧ f 0 = Int.sl l ∧ f 3 = Int.sl out ∧ f 4 = I i ∧ f 5 = I (k : Nat) ∧ PlaceI out n k) (by kernel_rfl) ?_ ?_
  · simp -dsimp [g0, g3, g4, g5]
    refine loop_rule (hn := fun _ => false) (od := fun _ => none) (fun (k : Nat) f M => H ++ L = M ∧ f 0 = Int.sl l ∧ f 3 = Int.sl out ∧ f 4 = I i ∧ f 5 = I k ∧ k ≤ out.length ∧ ∀ j x, j < k → out[j]? = some x → x < n) (fun k => out.length - k) (by kernel_rfl) 0 (by simp [g0, g3, g4, g5]) ?_
    clear g g0 g3 g4 g5
    rintro k g _ ⟨rfl, g0, g3, g4, g5, hk, hall⟩
    have hall := Hid.mk hall
    by_cases hkl : k < out.length
    · have hy := List.getElem?_eq_getElem hkl
      obtain ⟨y, hye⟩ : ∃ y, y = out[k] := ⟨_, rfl⟩
      rw [← hye] at hy
      clear hye
      have hkd : decide (k < out.length) = true := decide_eq_true hkl
      simp -dsimp [g0, g3, g4, g5, hx, hy, hkd]
      refine condVW_introD (fun hlt2 => ?_) (fun hlt2 => ?_)
      · simp -dsimp [g0, g3, g4, g5]
        refine ⟨k + 1, by omega, wrapS (by omega), by omega, fun j x hj hjx => ?_⟩
        by_cases e : j = k
        · subst e; rw [hy, Option.some.injEq] at hjx; omega
        · exact hall.out j x (by omega) hjx
      · simp -dsimp [g0, g3, g4, g5]
        exact ⟨k, rfl, hk, hall.out, fun x hx2 => by rw [hy, Option.some.injEq] at hx2; omega⟩
    · have hkd : decide (k < out.length) = false := decide_eq_false hkl
      simp -dsimp [g0, g3, g4, g5, hx, hkd]
      exact ⟨k, rfl, hk, hall.out, fun x hx2 => by rw [List.getElem?_eq_none (by omega)] at hx2; cases hx2⟩
  clear g g0 g3 g4 g5
  rintro g _ ⟨k, rfl, g0, g3, g4, g5, p1, p2, p3⟩
  refine awp_cut (fun _ => false) (fun _ => none) (fun f M => H ++ L = M ∧ f 0 = Int.sl l ∧ f 3 = Int.sl out ∧ f 4 = I i ∧ f 5 = I k ∧ out[k]? ≠ some n) (by kernel_rfl) ?_ ?_
  · by_cases hkl : k < out.length
    · have hy := List.getElem?_eq_getElem hkl
      obtain ⟨y, hye⟩ : ∃ y, y = out[k] := ⟨_, rfl⟩
      rw [← hye] at hy
      clear hye
      have hkd : decide (k < out.length) = true := decide_eq_true hkl
      simp -dsimp [g0, g3, g4, g5, hx, hy, hkd]
      refine condVW_introEq (fun he => ?_) (fun hne => ?_)
      · simp -dsimp [g0, g3, g4, g5]
        refine .inl ⟨?_, L, rfl⟩
        rw [putI_has hri (k := k) (by rw [hy, he])]
      · simp -dsimp [g0, g3, g4, g5]
        exact hne
    · have hkd : decide (k < out.length) = false := decide_eq_false hkl
      simp -dsimp [g0, g3, g4, g5, hx, hkd]
      rw [List.getElem?_eq_none (by omega)]; simp
  clear g g0 g3 g4 g5
  rintro g _ ⟨rfl, g0, g3, g4, g5, hne⟩
  have hput := putI_at p1 p2 (fun x hxk => by
    have := p3 x hxk
    have : x ≠ n := fun e => hne (by rw [hxk, e])
    omega)
  refine awp_all s6Hn s6Od (by kernel_rfl) ?_
  simp -dsimp [g0, g3, g4, g5, hx, s6Hn, s6Od]
  refine ⟨p1, ?_⟩
  simp -dsimp [g0, g3, g4, g5, hx, s6Hn, s6Od]
  refine ⟨p1, ?_⟩
  simp -dsimp [g0, g3, g4, g5, hx, s6Hn, s6Od]
  refine app_own (h := none) (es := []) (Own.nil0 3 1 H L) rfl rfl rfl (by simp; omega) (by simp; omega) ?_
  intro h1 M1 o1 _
  simp -dsimp [g0, g3, g4, g5, hx, s6Hn, s6Od, p1]
  refine app_own o1 (by simp; omega) rfl rfl (by simp; omega) (by simp; omega) ?_
  intro h2 M2 o2 _
  have l2 : ([] ++ List.take k (out.map fun n => [I n]) ++ [[I n]]).length = k + 1 := by simp; omega
  simp -dsimp [g0, g3, g4, g5, hx, s6Hn, s6Od, p1]
  refine app_own o2 (by simp; omega) rfl rfl (by simp; omega) (by simp; omega) ?_
  intro h3 M3 o3 _
  have e3 : [] ++ List.take k (out.map fun n => [I n]) ++ [[I n]] ++ List.drop k (out.map fun n => [I n]) = (putI n out).map fun n => [I n] := by rw [hput]; simp
  simp -dsimp [g0, g3, g4, g5, hx, s6Hn, s6Od, p1]
  have e4 : (List.take out.length (out.map fun n => [I n])) = out.map fun n => [I n] := List.take_of_length_le (by simp)
  rw [e4] at o3
  have o4 : OwnI H M3 h3 (putI n out) := by unfold OwnI; rw [← e3]; exact o3
  have hlen : k + (out.length - k + 1) = (putI n out).length := by rw [hput]; simp; omega
  rw [hlen]
  exact .inr ⟨h3, rfl, o4⟩
end Go.Proofs
namespace Go.Proofs
open Go.Mu
theorem riseL_two (a b : Int) : riseL [a, b] = if a = b then [a] else if b < a then [b, a] else [a, b] := by
  show putI b [a] = _
  rw [putI]
  by_cases h : a = b
  · rw [if_pos h, if_pos h]
  · rw [if_neg h, if_neg h]
    by_cases h2 : b < a
    · rw [if_pos h2, if_pos h2]
    · rw [if_neg h2, if_neg h2]; rfl
theorem rnext_ok (l : Linear) (ho : LinOk l) (hc : l.code.length ≤ 2^38) (i : Nat) (hi : i < l.code.length) (H : List Blk) : ACalls Tryz.prog 105 [.agg l.cells, I i] H (fun e H' => e = .ret (Int.sl (nxt l i)) ∧ H' = H) := by
  refine acalls_tidy (acalls_of_vc (hn := fun _ => false) (od := fun _ => none) Tryz.func105 rfl (by kernel_rfl) ?_)
  obtain ⟨x, hx⟩ : ∃ x, l.code[i]? = some x := ⟨_, List.getElem?_eq_getElem hi⟩
  have hwr : IntKind.i64.wrap ((i : Int) + 1) = (i : Int) + 1 := by have := wrapS (i := i) (by omega); omega
  have cw := fun H => rwhere_ok l x.label (by omega) H
  have hw : x.kind = 3 ∨ x.kind = 4 → whrI l.code x.label = (whr l.code x.label : Int) := fun h => by
    have := ho.jump x (List.mem_of_getElem? hx) h
    unfold whrI; rw [if_pos this]
  obtain ⟨E, hE⟩ : ∃ E, E = nxt l i := ⟨_, rfl⟩
  rw [← hE]
  unfold nxt at hE
  rw [hx] at hE
  simp only at hE
  have fin : Hid (∀ (l2 : List Int) L, E = l2 → Tidy H (fun e H' => e = .ret (Int.sl E) ∧ H' = H) (.ret (Int.sl l2)) (H ++ L)) := ⟨fun l2 L h => by rw [← h]; exact tidy_same rfl ⟨rfl, rfl⟩⟩
  have hi' := Hid.mk hi
  have hc := Hid.mk hc
  simp only [Linear.cells] at cw
  have ua : x.kind = 5 ∨ x.kind = 4 ∨ x.kind = 3 ∨ (x.kind ≠ 5 ∧ x.kind ≠ 4 ∧ x.kind ≠ 3) := by omega
  rcases ua with hk5 | hk4 | hk3 | ⟨n5, n4, n3⟩
  · have b5 : (x.kind == 5) = true := by simpa using hk5
    rw [if_pos hk5] at hE
    have hE := Hid.mk hE
    simp -dsimp [hx, b5]
    exact fin.out [(l.code.length : Int)] _ hE.out
  · have b5 : (x.kind == 5) = false := by simp [hk4]
    have b4 : (x.kind == 4) = true := by simpa using hk4
    have b3 : (x.kind == 3) = false := by simp [hk4]
    rw [if_neg (by omega), if_neg (by omega), if_pos hk4, riseL_two] at hE
    rw [hw (.inr hk4)] at cw
    obtain ⟨w, hww⟩ : ∃ w : Int, w = (whr l.code x.label : Int) := ⟨_, rfl⟩
    rw [← hww] at hE cw
    have hE := Hid.mk hE
    simp -dsimp [hx, b5, b4, b3, hwr]
    refine acallsW_det (cw _) ?_
    simp -dsimp [hx, b5, b4, b3, hwr]
    refine condVW_introEq (fun he => ?_) (fun hne => ?_)
    · simp -dsimp [hx, b5, b4, b3, hwr]
      exact fin.out [(i : Int) + 1] _ (by rw [hE.out, if_pos he])
    · simp -dsimp [hx, b5, b4, b3, hwr]
      refine condVW_introD (fun hlt => ?_) (fun hlt => ?_)
      · simp -dsimp [hx, b5, b4, b3, hwr]
        exact fin.out [w, (i : Int) + 1] _ (by rw [hE.out, if_neg hne, if_pos hlt])
      · simp -dsimp [hx, b5, b4, b3, hwr]
        exact fin.out [(i : Int) + 1, w] _ (by rw [hE.out, if_neg hne, if_neg hlt])
  · have b5 : (x.kind == 5) = false := by simp [hk3]
    have b3 : (x.kind == 3) = true := by simpa using hk3
    rw [if_neg (by omega), if_pos hk3] at hE
    rw [hw (.inl hk3)] at cw
    obtain ⟨w, hww⟩ : ∃ w : Int, w = (whr l.code x.label : Int) := ⟨_, rfl⟩
    rw [← hww] at hE cw
    have hE := Hid.mk hE
    simp -dsimp [hx, b5, b3, hwr]
    refine acallsW_det (cw _) ?_
    simp -dsimp [hx, b5, b3, hwr]
    exact fin.out [w] _ hE.out
  · have b5 : (x.kind == 5) = false := by simpa using n5
    have b4 : (x.kind == 4) = false := by simpa using n4
    have b3 : (x.kind == 3) = false := by simpa using n3
    rw [if_neg n5, if_neg n3, if_neg n4] at hE
    have hE := Hid.mk hE
    simp -dsimp [hx, b5, b4, b3, hwr]
    exact fin.out [(i : Int) + 1] _ hE.out
def RUsesI (x : Line) (B : List Blk) (f : Fr) (M : List Blk) : Prop := ∃ h hd u, f 4 = hrow h u.length ∧ f 5 = hrow hd x.defs.length ∧ Two B M h hd u x.defs ∧ riseL u = x.uses ∧ u.length ≤ 3
theorem two_us {B : List Blk} {u d : List Int} : Two B (B ++ [.row 3 1 (u.map fun n => [I n]), .row 3 1 (d.map fun n => [I n])]) (some B.length) (some (B.length + 1)) u d :=
  ⟨⟨⟨_, rfl⟩, fun k hk => by cases hk; simp, fun h => by (cases h), fun k hk => by cases hk; exact Nat.le_refl _⟩, ⟨⟨_, rfl⟩, fun k hk => by cases hk; simp, fun h => by (cases h), fun k hk => by cases hk; omega⟩, fun k h1 h2 => by cases h1; simp at h2⟩
theorem rusesI_nn {x : Line} {B M : List Blk} {f : Fr} (hM : M = B) (h4 : f 4 = nilS) (h5 : f 5 = nilS) (hr : x.raw = []) (hd : x.defs = []) : RUsesI x B f M := by
  subst hM
  exact ⟨none, none, [], by rw [h4]; rfl, by rw [h5, hd]; rfl, by rw [hd]; have := two_nn (B := M) (L := []); rwa [List.append_nil] at this, by rw [Line.uses, hr], by simp⟩
theorem rusesI_sn {x : Line} {B M : List Blk} {f : Fr} (u : List Int) (hM : M = B ++ [.row 3 1 (u.map fun n => [I n])]) (h4 : f 4 = .hs B.length 0 u.length u.length) (h5 : f 5 = nilS) (hr : riseL u = x.uses) (hl : u.length ≤ 3) (hd : x.defs = []) : RUsesI x B f M := by
  subst hM
  exact ⟨some B.length, none, u, h4, by rw [h5, hd]; rfl, by rw [hd]; exact two_sn, hr, hl⟩
theorem rusesI_ns {x : Line} {B M : List Blk} {f : Fr} (hM : M = B ++ [.row 3 1 (x.defs.map fun n => [I n])]) (h4 : f 4 = nilS) (h5 : f 5 = .hs B.length 0 x.defs.length x.defs.length) (hr : x.raw = []) : RUsesI x B f M := by
  subst hM
  exact ⟨none, some B.length, [], by rw [h4]; rfl, h5, two_ns, by rw [Line.uses, hr], by simp⟩
theorem rusesI_ss {x : Line} {B M : List Blk} {f : Fr} (u : List Int) (hM : M = B ++ [.row 3 1 (u.map fun n => [I n]), .row 3 1 (x.defs.map fun n => [I n])]) (h4 : f 4 = .hs B.length 0 u.length u.length) (h5 : f 5 = .hs (B.length + 1) 0 x.defs.length x.defs.length) (hr : riseL u = x.uses) (hl : u.length ≤ 3) : RUsesI x B f M := by
  subst hM
  exact ⟨some B.length, some (B.length + 1), u, h4, h5, two_us, hr, hl⟩
def ruHn (d : Nat) : Bool := d == 15 || d == 29 || d == 56 || d == 69 || d == 79 || d == 89
theorem line_ins {vars : Int} {x : Line} (h : lineOk vars x = true) (h1 : x.kind = 1) : insOk vars x.ins = true := by
  unfold lineOk at h
  rw [if_pos h1, Bool.and_eq_true] at h
  exact h.1
theorem ins_op {vars : Int} {x : Ins} (h : insOk vars x = true) (hk : x.kind = 3) : (arityI x.op = 1 ∧ (x.op = 4 ∨ x.op = 5)) ∨ (arityI x.op = 2 ∧ 6 ≤ x.op ∧ x.op ≤ 20) ∨ (arityI x.op = 3 ∧ x.op = 21) := by
  simp only [insOk, hk] at h
  unfold arityI at *
  grind
theorem rise_swap (a b : Int) : riseL [a, b] = riseL [b, a] := rise_eq (riseL_rise _) fun y => by rw [riseL_mem]; simp only [List.mem_cons, List.not_mem_nil, or_false]; exact Or.comm
theorem ruses_ok (x : Line) (vars : Int) (hx : lineOk vars x = true) (H : List Blk) : ACalls Tryz.prog 62 [.agg x.cells] H (fun e H' => e = .ret (.tup [Int.sl x.uses, Int.sl x.defs]) ∧ H' = H) := by
  refine acalls_under fun hu _ => acalls_tidy (acalls_of_awp Tryz.func62 rfl (by kernel_rfl) ?_)
  have hu := Hid.mk hu
  obtain ⟨B, hB⟩ : ∃ B, B = H ++ [.box 67 x.cells] := ⟨_, rfl⟩
  have hBl : B.length = H.length + 1 := by rw [hB]; simp
  have hb : ∀ L, (B ++ L)[H.length]? = some (.box 67 x.cells) := fun L => by rw [hB]; simp
  refine awp_cut (fun _ => false) (fun _ => none) (fun f H' => B = H' ∧ f 1 = .bp H.length 0) (by kernel_rfl) ?_ ?_
  · simp -dsimp [hB]
  rintro g _ ⟨rfl, g1⟩
  refine awp_cut (fun _ => false) (fun _ => none) (fun f H' => B ++ [] = H' ∧ f 1 = .bp H.length 0 ∧ f 4 = nilS ∧ f 5 = nilS) (by kernel_rfl) ?_ ?_
  · simp -dsimp [g1]
  clear g g1
  rintro g _ ⟨rfl, g1, g4, g5⟩
  simp only [Line.cells] at hb
  have hb0 := hb []
  rw [List.append_nil] at hb0
  replace hB := Hid.mk hB
  replace hBl := Hid.mk hBl
  refine awp_cut ruHn (fun _ => none) (fun f M => f 1 = .bp H.length 0 ∧ f 5 = nilS ∧ ((x.kind ≠ 4 ∧ f 4 = nilS ∧ M = B) ∨ (x.kind = 4 ∧ f 4 = .hs B.length 0 1 1 ∧ M = B ++ [.row 3 1 [[I x.var]]]))) (by kernel_rfl) ?_ ?_
  · by_cases hk : x.kind = 4
    · have b4 : (x.kind == 4) = true := by simpa using hk
      simp -dsimp [g1, g4, g5, hb, hb0, ruHn, b4]
      refine app_n1 (by simp) ?_
      simp -dsimp [g1, g4, g5, hb, hb0, ruHn, b4, hk]
    · have b4 : (x.kind == 4) = false := by simpa using hk
      simp -dsimp [g1, g4, g5, hb, hb0, ruHn, b4, hk]
  clear g g1 g4 g5
  rintro g M ⟨g1, g5, hM⟩
  refine awp_cut ruHn (fun _ => none) (RUsesI x B) (by kernel_rfl) ?_ ?_
  · by_cases hk1 : x.kind = 1
    · have b1 : (x.kind == 1) = true := by simpa using hk1
      obtain ⟨-, g4, rfl⟩ := hM.resolve_right (fun h => by omega)
      have hin := line_ins hx hk1
      by_cases hk3 : x.ins.kind = 3
      · have i2 : (x.ins.kind == 2) = false := by simp [hk3]
        have i3 : (x.ins.kind == 3) = true := by simpa using hk3
        have i5 : (x.ins.kind != 5) = true := by simp [hk3]
        have hd : x.defs = [x.ins.d] := by unfold Line.defs; rw [if_pos ⟨hk1, by omega⟩]
        have hop := ins_op hin hk3
        have ca := fun H => argI_ok x.ins.op (by omega) (by omega) H
        rcases hop with ⟨ha, ho⟩ | ⟨ha, ho⟩ | ⟨ha, ho⟩
        · have hr : x.raw = [x.ins.a] := by unfold Line.raw; simp [hk1, hk3]; omega
          rw [ha] at ca
          simp -dsimp [g1, g4, g5, hb, hb0, ruHn, b1, i2, i3, i5]
          refine acallsW_det (ca _) ?_
          simp -dsimp [g1, g4, g5, hb, hb0, ruHn, b1, i2, i3, i5]
          refine appendVW_nil (by simp) (by simp) (fun hy => by cases hy) (fun _ => ?_)
          simp -dsimp [g1, g4, g5, hb, hb0, ruHn, b1, i2, i3, i5]
          refine app_n1 (by simp) ?_
          simp -dsimp [g1, g4, g5, hb, hb0, ruHn, b1, i2, i3, i5]
          exact rusesI_ss [x.ins.a] (by simp [hd]) (by simp) (by simp [hd]) (by rw [Line.uses, hr]) (by simp)
        · have hr : x.raw = [x.ins.a, x.ins.b] := by unfold Line.raw; simp [hk1, hk3]; (have h1 : ¬ (x.ins.op = 4 ∨ x.ins.op = 5) := by omega); (have h2 : ¬ x.ins.op = 21 := by omega); simp [h1, h2]
          rw [ha] at ca
          simp -dsimp [g1, g4, g5, hb, hb0, ruHn, b1, i2, i3, i5]
          refine acallsW_det (ca _) ?_
          simp -dsimp [g1, g4, g5, hb, hb0, ruHn, b1, i2, i3, i5]
          refine appendVW_nil (by simp) (by simp) (fun hy => by cases hy) (fun _ => ?_)
          simp -dsimp [g1, g4, g5, hb, hb0, ruHn, b1, i2, i3, i5]
          refine app_n1 (by simp) ?_
          simp -dsimp [g1, g4, g5, hb, hb0, ruHn, b1, i2, i3, i5]
          exact rusesI_ss [x.ins.a, x.ins.b] (by simp [hd]) (by simp) (by simp [hd]) (by rw [Line.uses, hr]) (by simp)
        · have hr : x.raw = [x.ins.a, x.ins.b, x.ins.c] := by unfold Line.raw; simp [hk1, hk3]; simp [ho]
          rw [ha] at ca
          simp -dsimp [g1, g4, g5, hb, hb0, ruHn, b1, i2, i3, i5]
          refine acallsW_det (ca _) ?_
          simp -dsimp [g1, g4, g5, hb, hb0, ruHn, b1, i2, i3, i5]
          refine appendVW_nil (by simp) (by simp) (fun hy => by cases hy) (fun _ => ?_)
          simp -dsimp [g1, g4, g5, hb, hb0, ruHn, b1, i2, i3, i5]
          refine app_n1 (by simp) ?_
          simp -dsimp [g1, g4, g5, hb, hb0, ruHn, b1, i2, i3, i5]
          exact rusesI_ss [x.ins.a, x.ins.b, x.ins.c] (by simp [hd]) (by simp) (by simp [hd]) (by rw [Line.uses, hr]) (by simp)
      · have i3 : (x.ins.kind == 3) = false := by simpa using hk3
        have ua : x.ins.kind = 2 ∨ x.ins.kind = 4 ∨ x.ins.kind = 5 ∨ (x.ins.kind ≠ 2 ∧ x.ins.kind ≠ 4 ∧ x.ins.kind ≠ 5) := by omega
        rcases ua with k2 | k4 | k5 | ⟨n2, n4, n5⟩
        · have i2 : (x.ins.kind == 2) = true := by simpa using k2
          have i5 : (x.ins.kind != 5) = true := by simp [k2]
          have hd : x.defs = [x.ins.d] := by unfold Line.defs; rw [if_pos ⟨hk1, by omega⟩]
          have hr : x.raw = [x.ins.a] := by unfold Line.raw; simp [hk1, k2]
          simp -dsimp [g1, g4, g5, hb, hb0, ruHn, b1, i2, i3, i5]
          refine app_n1 (by simp) ?_
          simp -dsimp [g1, g4, g5, hb, hb0, ruHn, b1, i2, i3, i5]
          refine app_n1 (by simp) ?_
          simp -dsimp [g1, g4, g5, hb, hb0, ruHn, b1, i2, i3, i5]
          exact rusesI_ss [x.ins.a] (by simp [hd]) (by simp) (by simp [hd]) (by rw [Line.uses, hr]) (by simp)
        · have i2 : (x.ins.kind == 2) = false := by simp [k4]
          have i4 : (x.ins.kind == 4) = true := by simpa using k4
          have i5 : (x.ins.kind != 5) = true := by simp [k4]
          have i5' : (x.ins.kind == 5) = false := by simp [k4]
          have hd : x.defs = [x.ins.d] := by unfold Line.defs; rw [if_pos ⟨hk1, by omega⟩]
          simp -dsimp [g1, g4, g5, hb, hb0, ruHn, b1, i2, i3, i4, i5, i5']
          by_cases ha : 0 ≤ x.ins.a
          · have hr : x.raw = [x.ins.a] := by unfold Line.raw; simp [hk1, k4, ha]
            have hab : decide (0 ≤ x.ins.a) = true := decide_eq_true ha
            simp -dsimp [g1, g4, g5, hb, hb0, ruHn, b1, i2, i3, i4, i5, i5', hab]
            refine app_n1 (by simp) ?_
            simp -dsimp [g1, g4, g5, hb, hb0, ruHn, b1, i2, i3, i4, i5, i5']
            refine app_n1 (by simp) ?_
            simp -dsimp [g1, g4, g5, hb, hb0, ruHn, b1, i2, i3, i4, i5, i5']
            exact rusesI_ss [x.ins.a] (by simp [hd]) (by simp) (by simp [hd]) (by rw [Line.uses, hr]) (by simp)
          · have hr : x.raw = [] := by unfold Line.raw; simp [hk1, k4, ha]
            have hab : decide (0 ≤ x.ins.a) = false := decide_eq_false ha
            simp -dsimp [g1, g4, g5, hb, hb0, ruHn, b1, i2, i3, i4, i5, i5', hab]
            refine app_n1 (by simp) ?_
            simp -dsimp [g1, g4, g5, hb, hb0, ruHn, b1, i2, i3, i4, i5, i5']
            exact rusesI_ns (by simp [hd]) (by simp [g4]) (by simp [hd]) hr
        · have i2 : (x.ins.kind == 2) = false := by simp [k5]
          have i4 : (x.ins.kind == 4) = false := by simp [k5]
          have i5 : (x.ins.kind != 5) = false := by simp [k5]
          have i5' : (x.ins.kind == 5) = true := by simpa using k5
          have hd : x.defs = [] := by unfold Line.defs; rw [if_neg (by omega)]
          simp -dsimp [g1, g4, g5, hb, hb0, ruHn, b1, i2, i3, i4, i5, i5']
          by_cases ha : 0 ≤ x.ins.a
          · have hr : x.raw = [x.ins.b, x.ins.a] := by unfold Line.raw; simp [hk1, k5, ha]
            have hab : decide (0 ≤ x.ins.a) = true := decide_eq_true ha
            simp -dsimp [g1, g4, g5, hb, hb0, ruHn, b1, i2, i3, i4, i5, i5', hab]
            refine app_n1 (by simp) ?_
            simp -dsimp [g1, g4, g5, hb, hb0, ruHn, b1, i2, i3, i4, i5, i5']
            refine app_h0 rfl rfl rfl (by simp) (by simp) ?_
            simp -dsimp [g1, g4, g5, hb, hb0, ruHn, b1, i2, i3, i4, i5, i5']
            exact rusesI_sn [x.ins.a, x.ins.b] (by simp) (by simp) (by simp [g5]) (by rw [Line.uses, hr]; exact rise_swap _ _) (by simp) hd
          · have hr : x.raw = [x.ins.b] := by unfold Line.raw; simp [hk1, k5, ha]
            have hab : decide (0 ≤ x.ins.a) = false := decide_eq_false ha
            simp -dsimp [g1, g4, g5, hb, hb0, ruHn, b1, i2, i3, i4, i5, i5', hab]
            refine app_n1 (by simp) ?_
            simp -dsimp [g1, g4, g5, hb, hb0, ruHn, b1, i2, i3, i4, i5, i5']
            exact rusesI_sn [x.ins.b] (by simp) (by simp) (by simp [g5]) (by rw [Line.uses, hr]) (by simp) hd
        · have i2 : (x.ins.kind == 2) = false := by simpa using n2
          have i4 : (x.ins.kind == 4) = false := by simpa using n4
          have i5 : (x.ins.kind != 5) = true := by simpa using n5
          have i5' : (x.ins.kind == 5) = false := by simpa using n5
          have hd : x.defs = [x.ins.d] := by unfold Line.defs; rw [if_pos ⟨hk1, by omega⟩]
          have hr : x.raw = [] := by unfold Line.raw; simp [hk1, hk3, n2, n4, n5]
          simp -dsimp [g1, g4, g5, hb, hb0, ruHn, b1, i2, i3, i4, i5, i5']
          refine app_n1 (by simp) ?_
          simp -dsimp [g1, g4, g5, hb, hb0, ruHn, b1, i2, i3, i4, i5, i5']
          exact rusesI_ns (by simp [hd]) (by simp [g4]) (by simp [hd]) hr
    · have b1 : (x.kind == 1) = false := by simpa using hk1
      have hd : x.defs = [] := by unfold Line.defs; rw [if_neg (by omega)]
      rcases hM with ⟨n4, g4, rfl⟩ | ⟨k4, g4, rfl⟩
      · simp -dsimp [g1, g4, g5, hb, hb0, ruHn, b1]
        exact rusesI_nn rfl (by simp [g4]) (by simp [g5]) (by unfold Line.raw; simp [hk1, n4]) hd
      · simp -dsimp [g1, g4, g5, hb, hb0, ruHn, b1]
        exact rusesI_sn [x.var] (by simp) (by simp [g4]) (by simp [g5]) (by rw [Line.uses]; unfold Line.raw; simp [k4]) (by simp) hd
  clear g g1 g5 hM
  rintro g M ⟨h, hd, u, g4, g5, tw, hru, hul⟩
  rw [hB.out] at tw
  refine awp_give2 4 5 (by omega) hu.out tw.own.less tw.dwn.less tw.ne (int_frzB _) (int_frzB _) g4 (map_len _).symm g5 (map_len _).symm fun M' f' f4 f5 hM _ => ?_
  obtain ⟨L, rfl⟩ := hM
  have cs := fun H => sorted16_ok u (by omega) H
  rw [hru] at cs
  refine awp_all (fun _ => false) (fun _ => none) (by kernel_rfl) ?_
  simp -dsimp [f4, f5]
  refine acallsW_det (cs _) ?_
  simp -dsimp [f4, f5]
  exact tidy_same rfl ⟨rfl, rfl⟩
end Go.Proofs
namespace Go.Proofs
open Go.Mu
def unseen (sn : List Bool) : Nat := (sn.filter fun b => !b).length
theorem unseen_set {sn : List Bool} {k : Nat} (h : sn[k]? = some false) : unseen (sn.set k true) + 1 = unseen sn := by
  unfold unseen
  induction sn generalizing k with
  | nil => simp at h
  | cons b sn ih =>
    cases k with
    | zero => simp at h; subst h; simp
    | succ k =>
      rw [List.getElem?_cons_succ] at h
      have := ih h
      rw [List.set_cons_succ, List.filter_cons, List.filter_cons]
      cases b <;> simp <;> omega
structure Srch (l : Linear) (i : Nat) (v : Int) (sn : List Bool) (td : List Int) : Prop where
  len : sn.length = l.code.length + 1
  bnd : ∀ k ∈ td, 0 ≤ k ∧ k ≤ l.code.length
  sound : ∀ k ∈ td, LiveAt l k.toNat v → LiveAt l i v
  start : sn[i]? = some true ∨ (i : Int) ∈ td
  done : ∀ k : Nat, sn[k]? = some true → (k = l.code.length → v ∉ l.rets) ∧ ∀ x, l.code[k]? = some x → v ∉ x.raw ∧ (v ∉ x.defs → ∀ j ∈ nxt l k, sn[j.toNat]? = some true ∨ j ∈ td)
theorem Srch.none {l : Linear} (ho : LinOk l) {i : Nat} {v : Int} {sn : List Bool} (h : Srch l i v sn []) : ¬ LiveAt l i v := by
  refine live_none (S := fun k => sn[k]? = some true) (fun hS => (h.done _ hS).1 rfl) (fun k x hS hx => ((h.done k hS).2 x hx).1) (fun k x j hS hx hd hj => ?_) (h.start.resolve_right (by simp))
  have := ((h.done k hS).2 x hx).2 hd _ hj
  simpa using this
theorem Srch.pop {l : Linear} {i : Nat} {v : Int} {sn : List Bool} {td : List Int} {k : Nat} (h : Srch l i v sn (td ++ [(k : Int)])) (hk : sn[k]? = some true) : Srch l i v sn td := by
  have e : ∀ j : Int, sn[j.toNat]? = some true ∨ j ∈ td ++ [(k : Int)] → sn[j.toNat]? = some true ∨ j ∈ td := fun j q => by
    rcases q with q | q
    · exact .inl q
    · rcases List.mem_append.1 q with q | q
      · exact .inr q
      · rw [List.mem_singleton] at q; subst q; exact .inl (by simpa using hk)
  exact ⟨h.len, fun j hj => h.bnd j (List.mem_append_left _ hj), fun j hj => h.sound j (List.mem_append_left _ hj), by simpa using e i (by simpa using h.start), fun k' hk' => let ⟨a, b⟩ := h.done k' hk'; ⟨a, fun x hx => let ⟨c, d⟩ := b x hx; ⟨c, fun hd j hj => e j (d hd j hj)⟩⟩⟩
theorem Srch.push {l : Linear} {i : Nat} {v : Int} {sn : List Bool} {td : List Int} {k : Nat} (h : Srch l i v sn (td ++ [(k : Int)])) (new : List Int) (hn : ∀ j ∈ new, 0 ≤ j ∧ j ≤ l.code.length) (hs : ∀ j ∈ new, LiveAt l j.toNat v → LiveAt l k v)
    (h1 : k = l.code.length → v ∉ l.rets) (h2 : ∀ x, l.code[k]? = some x → v ∉ x.raw ∧ (v ∉ x.defs → ∀ j ∈ nxt l k, j ∈ new)) : Srch l i v (sn.set k true) (td ++ new) := by
  have hkm : (k : Int) ∈ td ++ [(k : Int)] := by simp
  have hkb := h.bnd _ hkm
  have hkl : k < sn.length := by rw [h.len]; omega
  have hkk : (sn.set k true)[k]? = some true := by simp [hkl]
  have e : ∀ j : Int, 0 ≤ j → sn[j.toNat]? = some true ∨ j ∈ td ++ [(k : Int)] → (sn.set k true)[j.toNat]? = some true ∨ j ∈ td ++ new := fun j hj0 q => by
    by_cases hjk : j.toNat = k
    · left; rw [hjk]; exact hkk
    · rcases q with q | q
      · left; rw [List.getElem?_set_ne (fun e => hjk e.symm)]; exact q
      · rcases List.mem_append.1 q with q | q
        · exact .inr (List.mem_append_left _ q)
        · rw [List.mem_singleton] at q; subst q; simp at hjk
  refine ⟨by rw [List.length_set]; exact h.len, fun j hj => ?_, fun j hj => ?_, by simpa using e i (by omega) (by simpa using h.start), fun k' hk' => ?_⟩
  · rcases List.mem_append.1 hj with hj | hj
    · exact h.bnd j (List.mem_append_left _ hj)
    · exact hn j hj
  · rcases List.mem_append.1 hj with hj | hj
    · exact h.sound j (List.mem_append_left _ hj)
    · exact fun hl => h.sound _ hkm (by simpa using hs j hj hl)
  · by_cases e2 : k' = k
    · subst e2
      exact ⟨h1, fun x hx => ⟨(h2 x hx).1, fun hd j hj => .inr (List.mem_append_right _ ((h2 x hx).2 hd j hj))⟩⟩
    · rw [List.getElem?_set_ne (fun e => e2 e.symm)] at hk'
      obtain ⟨a, b⟩ := h.done k' hk'
      refine ⟨a, fun x hx => ⟨(b x hx).1, fun hd j hj => ?_⟩⟩
      have hj0 : 0 ≤ j ∨ j < 0 := by omega
      rcases (b x hx).2 hd j hj with q | q
      · by_cases hjk : j.toNat = k
        · left; rw [hjk]; exact hkk
        · left; rw [List.getElem?_set_ne (fun e => hjk e.symm)]; exact q
      · exact e j (h.bnd j q).1 (.inr q)
abbrev boolR (sn : List Bool) : Blk := .row 4 1 (sn.map fun b => [Bo b])
abbrev intR (tl : List Int) : Blk := .row 3 1 (tl.map fun n => [I n])
def SrI (l : Linear) (i : Nat) (v : Int) (G : List Bool → List Int → List Blk) (b : Nat) (sn : List Bool) (tl : List Int) (m : Nat) (f8 : AV) (M : List Blk) : Prop := M = G sn tl ∧ f8 = .hs (b + 1) 0 m tl.length ∧ m ≤ tl.length ∧ tl.length + 2 * unseen sn ≤ 2 * l.code.length + 3 ∧ Srch l i v sn (tl.take m)
def rlHn (d : Nat) : Bool := d == 20 || d == 96
theorem app_cutI {m v : Nat} {M : List Blk} {k : Nat} {tl ys : List Int} {sl : TypeId × Nat × List Value × Nat} {K : AV → List Blk → Prop} {w : Wit K} (hk : M[k]? = some (intR tl)) (hv : v = tl.length) (hm : m ≤ v) (h1 : sl.1 = 3) (h2 : sl.2.1 = 1)
    (hb : (m + ys.length) * sl.2.2.2 ≤ 140737488355328) (h63 : m + ys.length ≤ 9223372036854775807)
    (K' : ∀ tl' : List Int, m + ys.length ≤ tl'.length → tl'.take (m + ys.length) = tl.take m ++ ys → tl'.length ≤ max tl.length (m + ys.length) → K (.hs k 0 (m + ys.length) tl'.length) (M.set k (intR tl'))) : appendVW M sl (.hs k 0 m v) (ys.map fun n => [I n]) K w := by
  subst hv
  obtain ⟨s1, s2, s3, s4⟩ := sl
  simp only at h1 h2 hb
  subst h1 h2
  unfold appendVW appendV
  show (match M[k]? with | some (.row t z es') => _ | _ => False)
  rw [hk]
  refine ⟨⟨rfl, rfl, by simp⟩, ?_⟩
  by_cases hle : m + ys.length ≤ tl.length
  · have hl : (tl.take m ++ ys ++ tl.drop (m + ys.length)).length = tl.length := by simp; omega
    have := K' (tl.take m ++ ys ++ tl.drop (m + ys.length)) (by rw [hl]; exact hle) (by rw [List.take_append_of_le_length (by simp; omega), List.take_of_length_le (by simp; omega)]) (by rw [hl]; exact Nat.le_max_left _ _)
    rw [hl] at this
    refine .inr (.inl ⟨by simpa using hle, ?_⟩)
    simpa [intR] using this
  · have hl : (tl.take m ++ ys).length = m + ys.length := by simp; omega
    have := K' (tl.take m ++ ys) (by rw [hl]; exact Nat.le_refl _) (List.take_of_length_le (by rw [hl]; exact Nat.le_refl _)) (by rw [hl]; exact Nat.le_max_right _ _)
    rw [hl] at this
    refine .inr (.inr ⟨⟨hm, by simp; omega, by simpa using hb, by simpa using h63⟩, ?_⟩)
    simpa [intR] using this
theorem unseen_all (n : Nat) : unseen (List.replicate n false) = n := by
  unfold unseen
  induction n with
  | zero => rfl
  | succ n ih => rw [List.replicate_succ, List.filter_cons]; simp
theorem raw_uses {x : Line} {v : Int} (h : ∀ q ∈ x.uses, q ≠ v) : v ∉ x.raw := fun hv => h v ((riseL_mem _ _).2 hv) rfl
def LiveR (l : Linear) (i : Nat) (v : Int) (e : AE) : Prop := ∃ b, e = .ret (Bo b) ∧ (b = true ↔ LiveAt l i v)
def NoI (l : Linear) (i : Nat) (v : Int) (G : List Bool → List Int → List Blk) (M : List Blk) : Prop := ¬ LiveAt l i v ∧ ∃ sn tl, M = G sn tl
theorem live1_ok (l : Linear) (hs : l.Sm) (ho : LinOk l) (i : Nat) (hi : i ≤ l.code.length) (v : Int) (H : List Blk) : ACalls Tryz.prog 132 [.agg l.cells, I i, I v] H (fun e H' => LiveR l i v e ∧ H' = H) := by
  refine acalls_tidy (acalls_of_awp Tryz.func132 rfl (by kernel_rfl) ?_)
  have hcl := hs.code
  have hrl := hs.rets
  obtain ⟨n, hn⟩ : ∃ n, n = l.code.length := ⟨_, rfl⟩
  obtain ⟨B, hB⟩ : ∃ B, B = H ++ [.box 25 l.cells] := ⟨_, rfl⟩
  have hb : B[H.length]? = some (.box 25 l.cells) := by rw [hB]; simp
  simp only [Linear.cells] at hb
  obtain ⟨G, hG⟩ : ∃ G : List Bool → List Int → List Blk, ∀ sn tl, G sn tl = B ++ [boolR sn, intR tl] := ⟨_, fun _ _ => rfl⟩
  have gb : ∀ sn tl, (G sn tl)[H.length]? = some (.box 25 [I l.vars, Int.sl l.params, Int.sl l.rets, I l.frame, Line.sl l.code]) := fun sn tl => by rw [hG]; exact get_app_old hb _
  have gs : ∀ sn tl, (G sn tl)[B.length]? = some (boolR sn) := fun sn tl => by rw [hG]; simp
  have gt : ∀ sn tl, (G sn tl)[B.length + 1]? = some (intR tl) := fun sn tl => by rw [hG]; simp
  have ss : ∀ sn sn' tl, (G sn tl).set B.length (boolR sn') = G sn' tl := fun sn sn' tl => by rw [hG, hG]; simp
  have st : ∀ sn tl tl', (G sn tl).set (B.length + 1) (intR tl') = G sn tl' := fun sn tl tl' => by rw [hG, hG]; simp
  have gH : ∀ sn tl, ∃ L, G sn tl = H ++ L := fun sn tl => ⟨[.box 25 l.cells, boolR sn, intR tl], by rw [hG, hB]; simp⟩
  have yes : ∀ sn tl, LiveAt l i v → Tidy H (fun e H' => LiveR l i v e ∧ H' = H) (.ret (Bo true)) (G sn tl) := fun sn tl h => by
    obtain ⟨L, hL⟩ := gH sn tl
    rw [hL]; exact tidy_same rfl ⟨⟨true, rfl, ⟨fun _ => h, fun _ => rfl⟩⟩, rfl⟩
  have no : ∀ sn tl, ¬ LiveAt l i v → Tidy H (fun e H' => LiveR l i v e ∧ H' = H) (.ret (Bo false)) (G sn tl) := fun sn tl h => by
    obtain ⟨L, hL⟩ := gH sn tl
    rw [hL]; exact tidy_same rfl ⟨⟨false, rfl, ⟨fun q => (by cases q), fun q => absurd q h⟩⟩, rfl⟩
  replace yes := Hid.mk yes
  replace no := Hid.mk no
  replace hB := Hid.mk hB
  have hG' := Hid.mk hG
  clear hG gH
  refine awp_cut (fun _ => false) (fun _ => none) (fun f M => B = M ∧ f 1 = I i ∧ f 2 = I v ∧ f 3 = .bp H.length 0) (by kernel_rfl) ?_ ?_
  · simp -dsimp [hB.out]
  rintro g _ ⟨rfl, g1, g2, g3⟩
  refine awp_cut (fun _ => false) (fun _ => none) (fun f M => B ++ [boolR (List.replicate (n + 1) false)] = M ∧ f 1 = I i ∧ f 2 = I v ∧ f 3 = .bp H.length 0 ∧ f 7 = .hs B.length 0 (n + 1) (n + 1)) (by kernel_rfl) ?_ ?_
  · have hw : IntKind.i64.wrap ((n : Int) + 1) = ((n + 1 : Nat) : Int) := wrapS (by omega)
    have ht : ((n : Int) + 1).toNat = n + 1 := by omega
    have hb8 : 0 ≤ (n : Int) + 1 ∧ (n : Int) + 1 ≤ 281474976710656 ∧ (n : Int) + 1 ≤ 9223372036854775807 := by omega
    simp -dsimp [g1, g2, g3, hb, ← hn, hw]
    refine ⟨by omega, ?_⟩
    simp -dsimp [g1, g2, g3, hb, ← hn, hw, ht]
  clear g g1 g2 g3
  rintro g _ ⟨rfl, g1, g2, g3, g7⟩
  refine awp_cut rlHn (fun _ => none) (fun f M => f 2 = I v ∧ f 3 = .bp H.length 0 ∧ f 7 = .hs B.length 0 (n + 1) (n + 1) ∧ SrI l i v G B.length (List.replicate (n + 1) false) [(i : Int)] 1 (f 8) M) (by kernel_rfl) ?_ ?_
  · simp -dsimp [g1, g2, g3, g7, rlHn]
    refine ⟨by rw [hG'.out]; simp, rfl, by simp, by rw [unseen_all]; simp; omega, ⟨by simp; omega, fun k hk => ?_, fun k hk => ?_, by simp, fun k hk => ?_⟩⟩
    · simp at hk; omega
    · simp at hk; subst hk; simp
    · rw [List.getElem?_replicate] at hk
      split at hk <;> simp at hk
  clear g g1 g2 g3 g7
  rintro g M ⟨g2, g3, g7, hsr⟩
  refine awp_cutA (fun f M => NoI l i v G M) ?_ ?_
  rotate_left
  · clear g g2 g3 g7 hsr
    rintro g _ ⟨hno, sn, tl, rfl⟩
    refine awp_all (fun _ => false) (fun _ => none) (by kernel_rfl) ?_
    simp -dsimp
    exact no.out _ _ hno
  refine awp_block ?_
  refine awp_loopI (fun (z : List Bool × List Int × Nat) f M => f 2 = I v ∧ f 3 = .bp H.length 0 ∧ f 7 = .hs B.length 0 (n + 1) (n + 1) ∧ SrI l i v G B.length z.1 z.2.1 z.2.2 (f 8) M) (fun z => 3 * unseen z.1 + z.2.2) (List.replicate (n + 1) false, [(i : Int)], 1) ⟨g2, g3, g7, hsr⟩ ?_
  clear g g2 g3 g7 hsr M
  rintro ⟨sn, tl, m⟩ g _ ⟨g2, g3, g7, rfl, g8, hm, htl, hsr⟩
  simp only at g8 hm htl hsr ⊢
  have snl : (sn.map fun b => [Bo b]).length = n + 1 := by have := hsr.len; simp; omega
  have tll : (tl.map fun n => [I n]).length = tl.length := by simp
  refine awp_cut (fun _ => false) (fun _ => none) (fun f M => G sn tl = M ∧ f 2 = I v ∧ f 3 = .bp H.length 0 ∧ f 7 = .hs B.length 0 (n + 1) (n + 1) ∧ f 8 = .hs (B.length + 1) 0 m tl.length ∧ 0 < m) (by kernel_rfl) ?_ ?_
  · simp -dsimp [g2, g3, g7, g8, gt]
    by_cases h0 : 0 < m
    · simp -dsimp [g2, g3, g7, g8, h0]
    · obtain rfl : m = 0 := by omega
      simp -dsimp [g2, g3, g7, g8]
      exact ⟨hsr.none ho, sn, tl, rfl⟩
  clear g g2 g3 g7 g8
  rintro g _ ⟨rfl, g2, g3, g7, g8, h0⟩
  obtain ⟨m, rfl⟩ : ∃ q, m = q + 1 := ⟨m - 1, by omega⟩
  have hml : m < tl.length := by omega
  have htk : tl.take (m + 1) = tl.take m ++ [tl[m]] := List.take_succ_eq_append_getElem hml
  have hgm := List.getElem?_eq_getElem hml
  obtain ⟨kz, hkz⟩ : ∃ kz, kz = tl[m] := ⟨_, rfl⟩
  rw [← hkz] at htk hgm
  rw [htk] at hsr
  have hkb := hsr.bnd kz (by simp)
  obtain ⟨k, rfl⟩ : ∃ k : Nat, kz = k := ⟨kz.toNat, by omega⟩
  clear hkz
  refine awp_block ?_
  have hcm : (tl.map fun n => [I n])[m]? = some [I (k : Int)] := by rw [List.getElem?_map, hgm]; rfl
  have ct : cellsAt (G sn tl) (.rp (B.length + 1) tl.length m 0) = some [I (k : Int)] := by simp [cellsAt, gt, hcm]
  have hw1 : IntKind.i64.wrap (m : Int) = (m : Int) := wrapI (by omega) (by omega)
  refine awp_cut (fun _ => false) (fun _ => none) (fun f M => G sn tl = M ∧ f 2 = I v ∧ f 3 = .bp H.length 0 ∧ f 7 = .hs B.length 0 (n + 1) (n + 1) ∧ f 8 = .hs (B.length + 1) 0 (m + 1) tl.length ∧ f 9 = I k) (by kernel_rfl) ?_ ?_
  · simp -dsimp [g2, g3, g7, g8, gt, hw1]
    refine ⟨by omega, ?_⟩
    simp -dsimp [g2, g3, g7, g8, ct]
  clear g g2 g3 g7 g8
  rintro g _ ⟨rfl, g2, g3, g7, g8, g9⟩
  refine awp_cut (fun _ => false) (fun _ => none) (fun f M => G sn tl = M ∧ f 2 = I v ∧ f 3 = .bp H.length 0 ∧ f 7 = .hs B.length 0 (n + 1) (n + 1) ∧ f 8 = .hs (B.length + 1) 0 m tl.length ∧ f 9 = I k) (by kernel_rfl) ?_ ?_
  · simp -dsimp [g2, g3, g7, g8, g9, gt, hw1]
    refine ⟨by omega, ?_⟩
    simp -dsimp [g2, g3, g7, g8, g9]
  clear g g2 g3 g7 g8 g9
  rintro g _ ⟨rfl, g2, g3, g7, g8, g9⟩
  have hkn : k < n + 1 := by omega
  have hkl : k < sn.length := by rw [hsr.len]; omega
  obtain ⟨b, hbk⟩ : ∃ b, sn[k]? = some b := ⟨_, List.getElem?_eq_getElem hkl⟩
  have hcs : (sn.map fun b => [Bo b])[k]? = some [Bo b] := by rw [List.getElem?_map, hbk]; rfl
  have cs : cellsAt (G sn tl) (.rp B.length (n + 1) k 0) = some [Bo b] := by simp [cellsAt, gs, snl, hcs]
  refine awp_cut (fun _ => false) (fun _ => none) (fun f M => G sn tl = M ∧ f 2 = I v ∧ f 3 = .bp H.length 0 ∧ f 7 = .hs B.length 0 (n + 1) (n + 1) ∧ f 8 = .hs (B.length + 1) 0 m tl.length ∧ f 9 = I k ∧ b = false) (by kernel_rfl) ?_ ?_
  · simp -dsimp [g2, g3, g7, g8, g9, gs, snl]
    refine ⟨by omega, ?_⟩
    cases b with
    | true =>
      simp -dsimp [g2, g3, g7, g8, g9, cs]
      refine ⟨sn, tl, m, by omega, rfl, rfl, by omega, htl, hsr.pop hbk⟩
    | false => simp -dsimp [g2, g3, g7, g8, g9, cs]
  clear g g2 g3 g7 g8 g9
  rintro g _ ⟨rfl, g2, g3, g7, g8, g9, rfl⟩
  have sn2 : (sn.map fun b => [Bo b]).set k [Bo true] = (sn.set k true).map fun b => [Bo b] := by rw [List.map_set]
  have hast : astore (G sn tl) (.rp B.length (n + 1) k 0) [Bo true] = some ((G sn tl).set B.length (boolR (sn.set k true))) := by
    have := astore_one (x := Bo true) (gs sn tl) snl hcs
    rw [sn2] at this; exact this
  have hun := unseen_set hbk
  refine awp_cut (fun _ => false) (fun _ => none) (fun f M => G (sn.set k true) tl = M ∧ f 2 = I v ∧ f 3 = .bp H.length 0 ∧ f 7 = .hs B.length 0 (n + 1) (n + 1) ∧ f 8 = .hs (B.length + 1) 0 m tl.length ∧ f 9 = I k) (by kernel_rfl) ?_ ?_
  · simp -dsimp [g2, g3, g7, g8, g9, gs, snl]
    refine ⟨by omega, ?_⟩
    simp -dsimp [g2, g3, g7, g8, g9, hast, ss]
  clear g g2 g3 g7 g8 g9 cs hcs hast
  rintro g _ ⟨rfl, g2, g3, g7, g8, g9⟩
  obtain ⟨S2, hS2⟩ : ∃ S2, S2 = sn.set k true := ⟨_, rfl⟩
  rw [← hS2] at hun ⊢
  have live_k : LiveAt l k v → LiveAt l i v := fun h => hsr.sound k (by simp) (by simpa using h)
  refine awp_cut (fun _ => false) (fun _ => none) (fun f M => G S2 tl = M ∧ f 2 = I v ∧ f 3 = .bp H.length 0 ∧ f 7 = .hs B.length 0 (n + 1) (n + 1) ∧ f 8 = .hs (B.length + 1) 0 m tl.length ∧ f 9 = I k ∧ k ≠ n) (by kernel_rfl) ?_ ?_
  · by_cases hkn2 : k = n
    · have hkb : ((k : Int) == (l.code.length : Int)) = true := by simp; omega
      have hkb2 : (k == l.code.length) = true := by simp; omega
      have end_ : (∀ q ∈ l.rets, q ≠ v) → ∃ y : List Bool × List Int × Nat, 3 * unseen y.1 + y.2.2 < 3 * unseen sn + (m + 1) ∧ SrI l i v G B.length y.1 y.2.1 y.2.2 (.hs (B.length + 1) 0 m tl.length) (G S2 tl) := fun h => by
        refine ⟨(S2, tl, m), by simp only; omega, rfl, rfl, by simp only; omega, by simp only; omega, ?_⟩
        have := hsr.push [] (by simp) (by simp) (fun _ hv => h v hv rfl) (fun x hx => by
          rw [List.getElem?_eq_none (by omega)] at hx; cases hx)
        rw [← hS2, List.append_nil] at this
        exact this
      replace end_ := Hid.mk end_
      have hlive : v ∈ l.rets → LiveAt l i v := fun h => live_k (by rw [hkn2, hn]; exact .told h)
      replace hlive := Hid.mk hlive
      simp -dsimp [g2, g3, g7, g8, g9, gb, hkb, hkb2]
      refine loop_rule (hn := fun _ => false) (od := fun _ => none) (fun (q : Nat) f M => G S2 tl = M ∧ f 2 = I v ∧ f 3 = .bp H.length 0 ∧ f 7 = .hs B.length 0 (n + 1) (n + 1) ∧ f 8 = .hs (B.length + 1) 0 m tl.length ∧ f 10 = I q ∧ q ≤ l.rets.length ∧ ∀ w ∈ l.rets.take q, w ≠ v) (fun q => l.rets.length - q) (by kernel_rfl) 0 (by simp [g2, g3, g7, g8]) ?_
      clear g g2 g3 g7 g8 g9
      rintro q g _ ⟨rfl, g2, g3, g7, g8, g10, hq, hall⟩
      have hall := Hid.mk hall
      simp -dsimp [g2, g3, g7, g8, g10, gb]
      refine condVW_introD (fun hlt => ?_) (fun hlt => ?_)
      · have hlt' : q < l.rets.length := by omega
        have hx := List.getElem?_eq_getElem hlt'
        have htq : l.rets.take (q + 1) = l.rets.take q ++ [l.rets[q]] := List.take_succ_eq_append_getElem hlt'
        obtain ⟨w, hw⟩ : ∃ w, w = l.rets[q] := ⟨_, rfl⟩
        rw [← hw] at hx htq
        clear hw
        simp -dsimp [g2, g3, g7, g8, g10, gb, hx]
        refine condVW_introEq (fun he => ?_) (fun hne => ?_)
        · simp -dsimp
          exact yes.out _ _ (hlive.out (he ▸ List.mem_of_getElem? hx))
        · simp -dsimp [g2, g3, g7, g8, g10]
          refine ⟨q + 1, by omega, wrapS (by omega), by omega, fun u hu => ?_⟩
          rw [htq] at hu
          rcases List.mem_append.1 hu with hu | hu
          · exact hall.out u hu
          · rw [List.mem_singleton] at hu; subst hu; exact hne
      · simp -dsimp [g2, g3, g7, g8]
        obtain ⟨y, h1, h2⟩ := end_.out (fun w hw => hall.out w (by rw [List.take_of_length_le (by omega)]; exact hw))
        exact ⟨y.1, y.2.1, y.2.2, h1, h2⟩
    · have hkb : ((k : Int) == (l.code.length : Int)) = false := by simp; omega
      have hkb2 : (k == l.code.length) = false := by simp; omega
      simp -dsimp [g2, g3, g7, g8, g9, gb, hkb, hkb2]
      exact hkn2
  clear g g2 g3 g7 g8 g9
  rintro g _ ⟨rfl, g2, g3, g7, g8, g9, hkn2⟩
  have hkl2 : k < l.code.length := by omega
  obtain ⟨x, hx⟩ : ∃ x, l.code[k]? = some x := ⟨_, List.getElem?_eq_getElem hkl2⟩
  have hlx := ho.lines x (List.mem_of_getElem? hx)
  have cu := fun H => ruses_ok x l.vars hlx H
  simp only [Line.cells] at cu
  have ul := uses_len x
  have dl := defs_len x
  refine awp_cut (fun _ => false) (fun _ => none) (fun f M => G S2 tl = M ∧ f 2 = I v ∧ f 3 = .bp H.length 0 ∧ f 7 = .hs B.length 0 (n + 1) (n + 1) ∧ f 8 = .hs (B.length + 1) 0 m tl.length ∧ f 9 = I k ∧ f 11 = Int.sl x.uses ∧ f 12 = Int.sl x.defs) (by kernel_rfl) ?_ ?_
  · simp -dsimp [g2, g3, g7, g8, g9, gb, hx]
    refine acallsW_det (cu _) ?_
    simp -dsimp [g2, g3, g7, g8, g9, gb, hx]
  clear g g2 g3 g7 g8 g9
  rintro g _ ⟨rfl, g2, g3, g7, g8, g9, g11, g12⟩
  have hlive : v ∈ x.raw → LiveAt l i v := fun h => live_k (.read hx h)
  replace hlive := Hid.mk hlive
  refine awp_cut (fun _ => false) (fun _ => none) (fun f M => G S2 tl = M ∧ f 2 = I v ∧ f 3 = .bp H.length 0 ∧ f 7 = .hs B.length 0 (n + 1) (n + 1) ∧ f 8 = .hs (B.length + 1) 0 m tl.length ∧ f 9 = I k ∧ f 12 = Int.sl x.defs ∧ Hid (v ∉ x.raw)) (by kernel_rfl) ?_ ?_
  · simp -dsimp [g2, g3, g7, g8, g9, g11, g12]
    refine loop_rule (hn := fun _ => false) (od := fun _ => none) (fun (q : Nat) f M => G S2 tl = M ∧ f 2 = I v ∧ f 3 = .bp H.length 0 ∧ f 7 = .hs B.length 0 (n + 1) (n + 1) ∧ f 8 = .hs (B.length + 1) 0 m tl.length ∧ f 9 = I k ∧ f 11 = Int.sl x.uses ∧ f 12 = Int.sl x.defs ∧ f 13 = I q ∧ q ≤ x.uses.length ∧ ∀ w ∈ x.uses.take q, w ≠ v) (fun q => x.uses.length - q) (by kernel_rfl) 0 (by simp [g2, g3, g7, g8, g9, g11, g12]) ?_
    clear g g2 g3 g7 g8 g9 g11 g12
    rintro q g _ ⟨rfl, g2, g3, g7, g8, g9, g11, g12, g13, hq, hall⟩
    have hall := Hid.mk hall
    simp -dsimp [g2, g3, g7, g8, g9, g11, g12, g13]
    refine condVW_introD (fun hlt => ?_) (fun hlt => ?_)
    · have hlt' : q < x.uses.length := by omega
      have hxq := List.getElem?_eq_getElem hlt'
      have htq : x.uses.take (q + 1) = x.uses.take q ++ [x.uses[q]] := List.take_succ_eq_append_getElem hlt'
      obtain ⟨w, hw⟩ : ∃ w, w = x.uses[q] := ⟨_, rfl⟩
      rw [← hw] at hxq htq
      clear hw
      simp -dsimp [g2, g3, g7, g8, g9, g11, g12, g13, hxq]
      refine condVW_introEq (fun he => ?_) (fun hne => ?_)
      · simp -dsimp
        exact yes.out _ _ (hlive.out ((riseL_mem _ _).1 (he ▸ List.mem_of_getElem? hxq)))
      · simp -dsimp [g2, g3, g7, g8, g9, g11, g12, g13]
        refine ⟨q + 1, by omega, wrapS (by omega), by omega, fun u hu => ?_⟩
        rw [htq] at hu
        rcases List.mem_append.1 hu with hu | hu
        · exact hall.out u hu
        · rw [List.mem_singleton] at hu; subst hu; exact hne
    · simp -dsimp [g2, g3, g7, g8, g9, g11, g12, g13]
      exact ⟨raw_uses fun w hw => hall.out w (by rw [List.take_of_length_le (by omega)]; exact hw)⟩
  clear g g2 g3 g7 g8 g9 g11 g12
  rintro g _ ⟨rfl, g2, g3, g7, g8, g9, g12, hraw⟩
  have push := fun new h1 h2 h3 => hsr.push new h1 h2 (fun e => absurd (by omega) hkn2) h3
  rw [← hS2] at push
  replace push := Hid.mk push
  refine awp_cut (fun _ => false) (fun _ => none) (fun f M => G S2 tl = M ∧ f 2 = I v ∧ f 3 = .bp H.length 0 ∧ f 7 = .hs B.length 0 (n + 1) (n + 1) ∧ f 8 = .hs (B.length + 1) 0 m tl.length ∧ f 9 = I k ∧ Hid (v ∉ x.defs)) (by kernel_rfl) ?_ ?_
  · have skip_ : v ∈ x.defs → ∃ a a_1 b, 3 * unseen a + b < 3 * unseen sn + (m + 1) ∧ SrI l i v G B.length a a_1 b (.hs (B.length + 1) 0 m tl.length) (G S2 tl) := fun h => by
      refine ⟨S2, tl, m, by omega, rfl, rfl, by omega, by omega, ?_⟩
      have := push.out [] (by simp) (by simp) (fun y hy => by rw [hx, Option.some.injEq] at hy; subst hy; exact ⟨hraw.out, fun hd => absurd h hd⟩)
      rw [List.append_nil] at this
      exact this
    replace skip_ := Hid.mk skip_
    by_cases hd : x.kind = 1 ∧ x.ins.kind ≠ 5
    · have hde : x.defs = [x.ins.d] := by unfold Line.defs; rw [if_pos hd]
      rw [hde] at g12 skip_ ⊢
      simp -dsimp [g2, g3, g7, g8, g9, g12]
      refine condVW_introEq (fun he => ?_) (fun hne => ?_)
      · simp -dsimp [g2, g3, g7, g8, g9, g12]
        exact skip_.out (by simp [he])
      · simp -dsimp [g2, g3, g7, g8, g9, g12]
        exact ⟨fun e => hne e.symm⟩
    · have hde : x.defs = [] := by unfold Line.defs; rw [if_neg hd]
      rw [hde] at g12 skip_ ⊢
      simp -dsimp [g2, g3, g7, g8, g9, g12]
      exact ⟨trivial⟩
  clear g g2 g3 g7 g8 g9 g12
  rintro g _ ⟨rfl, g2, g3, g7, g8, g9, hdef⟩
  have cn := fun H => rnext_ok l ho (by omega) k hkl2 H
  simp only [Linear.cells] at cn
  have nl := nxt_len l k
  refine awp_all rlHn (fun _ => none) (by kernel_rfl) ?_
  simp -dsimp [g2, g3, g7, g8, g9, gb, rlHn]
  refine acallsW_det (cn _) ?_
  simp -dsimp [g2, g3, g7, g8, g9, gb, rlHn]
  refine app_cutI (gt S2 tl) rfl (by omega) rfl rfl (by simp; omega) (by omega) ?_
  intro tl2 e1 e2 e3
  simp -dsimp [g2, g3, g7, g8, g9, gb, st]
  refine ⟨S2, tl2, m + (nxt l k).length, by omega, rfl, rfl, e1, by omega, ?_⟩
  rw [e2]
  refine push.out (nxt l k) (fun j hj => let h := nxt_in ho hj; ⟨h.1, h.2.1⟩) (fun j hj hl => ?_) (fun y hy => by rw [hx, Option.some.injEq] at hy; subst hy; exact ⟨hraw.out, fun _ j hj => hj⟩)
  have hj0 := (nxt_in ho hj).1
  exact .way hx hdef.out (k := j.toNat) (by rw [Int.toNat_of_nonneg hj0]; exact hj) hl
noncomputable def liveTo (l : Linear) (i k : Nat) : List Int := ((List.range k).map fun n : Nat => (n : Int)).filter fun v => @decide (LiveAt l i v) (Classical.propDecidable _)
theorem liveTo_succ (l : Linear) (i k : Nat) (b : Bool) (hb : b = true ↔ LiveAt l i k) : liveTo l i (k + 1) = liveTo l i k ++ if b = true then [(k : Int)] else [] := by
  unfold liveTo
  rw [List.range_succ, List.map_append, List.filter_append]
  congr 1
  simp only [List.map_cons, List.map_nil, List.filter_cons, List.filter_nil]
  by_cases h : LiveAt l i k
  · have : b = true := hb.2 h
    simp [h, this]
  · have : ¬ b = true := fun e => h (hb.1 e)
    simp [h, this]
theorem liveTo_len (l : Linear) (i k : Nat) : (liveTo l i k).length ≤ k := by
  unfold liveTo
  exact Nat.le_trans (List.length_filter_le _ _) (by simp)
theorem rlive_ok (l : Linear) (hs : l.Sm) (ho : LinOk l) (i : Nat) (hi : i ≤ l.code.length) (H : List Blk) : ACalls Tryz.prog 102 [.agg l.cells, I i] H (fun e H' => e = .ret (Int.sl (liveL l i)) ∧ H' = H) := by
  refine acalls_under fun hu _ => acalls_weakE (acalls_tidy (acalls_of_vc (hn := fun d => d == 20) (od := fun _ => none) Tryz.func102 rfl (by kernel_rfl) ?_))
  have hv := ho.vars
  have cl := fun (k : Nat) H => live1_ok l hs ho i hi (k : Int) H
  simp only [Linear.cells] at cl
  obtain ⟨B, hB⟩ : ∃ B, B = H ++ [.box 25 [I l.vars, Int.sl l.params, Int.sl l.rets, I l.frame, Line.sl l.code]] := ⟨_, rfl⟩
  have hb : B[H.length]? = some (.box 25 [I l.vars, Int.sl l.params, Int.sl l.rets, I l.frame, Line.sl l.code]) := by rw [hB]; simp
  simp -dsimp
  rw [← hB]
  replace hB := Hid.mk hB
  refine loop_rule (hn := fun d => d == 20) (od := fun _ => none) (fun (k : Nat) f M => f 1 = I i ∧ f 2 = .bp H.length 0 ∧ f 6 = I k ∧ (k : Int) ≤ l.vars ∧ ∃ h, f 5 = hrow h (liveTo l i k).length ∧ OwnI B M h (liveTo l i k)) (fun k => l.vars.toNat - k) (by kernel_rfl) 0 (by refine ⟨by simp, by simp, by simp, by omega, none, by simp; rfl, .nil1 _ _ _⟩) ?_
  rintro k f M ⟨f1, f2, f6, hk, h, f5, ow⟩
  have r1 := ow.old hb
  have ll := liveTo_len l i k
  simp -dsimp [f1, f2, f6, r1]
  refine condVW_introD (fun hlt => ?_) (fun hlt => ?_)
  · simp -dsimp [f1, f2, f5, f6, r1]
    refine acallsW_of (cl k M) ?_
    rintro e _ ⟨⟨b, rfl, hbl⟩, rfl⟩
    have hsucc := liveTo_succ l i k b hbl
    cases b with
    | true =>
      simp -dsimp [f1, f2, f5, f6, r1]
      refine app_own ow (by simp) rfl rfl (by simp; omega) (by simp; omega) ?_
      intro h' M' ow' _
      have ow2 : OwnI B M' h' (liveTo l i (k + 1)) := by unfold OwnI; rw [hsucc]; simpa using ow'
      have e : ((liveTo l i k).map (fun n => [I n]) ++ [[I (k : Int)]]).length = (liveTo l i (k + 1)).length := by rw [hsucc]; simp
      rw [e]
      simp -dsimp [f1, f2, f5, f6, r1]
      exact ⟨k + 1, by omega, wrapS (by omega), by omega, h', rfl, ow2⟩
    | false =>
      simp -dsimp [f1, f2, f5, f6, r1]
      have e : liveTo l i (k + 1) = liveTo l i k := by rw [hsucc]; simp
      exact ⟨k + 1, by omega, wrapS (by omega), by omega, h, by rw [e], by rw [e]; exact ow⟩
  · simp -dsimp [f1, f2, f5]
    have e : liveTo l i k = liveL l i := by
      have : k = l.vars.toNat := by omega
      rw [this]; rfl
    rw [hB.out] at ow
    exact tidy_rowA hu ow.less (int_frzB _) (by simp) ⟨by rw [e], rfl⟩
end Go.Proofs
namespace Go.Proofs
open Go.Mu
def RPut (M : List Blk) (h : Option Nat) (E : List Int) (e : AE) (M' : List Blk) : Prop := ∃ h', e = .ret (hrow h' E.length) ∧ AtI M' h' E ∧ Stp M M' h h'
def puHn (d : Nat) : Bool := d == 28 || d == 31 || d == 35 || d == 39
def puOd (i : Nat) : Option OPlan := if i = 7 then some [(0, []), (1, []), (2, []), (4, []), (5, []), (7, []), (8, []), (9, []), (3, [5, 9]), (6, [9]), (10, []), (11, [])] else none
theorem rput_ok (l : List Int) (n : Int) (h : Option Nat) (H : List Blk) (hr : AtI H h l) (hl : l.length ≤ 2^38) : ACalls Tryz.prog 68 [hrow h l.length, I n] H (RPut H h (putI n l)) := by
  refine acalls_of_vc (hn := puHn) (od := puOd) Tryz.func68 rfl (by kernel_rfl) ?_
  obtain ⟨E, hE⟩ : ∃ E, E = putI n l := ⟨_, rfl⟩
  rw [← hE]
  cases h with
  | none =>
    have := hr.nil rfl
    have : l = [] := List.map_eq_nil_iff.1 this
    subst this
    simp -dsimp [hrow]
    refine loop_rule (hn := puHn) (od := puOd) (fun (i : Nat) f H' => H = H' ∧ f 0 = nilS ∧ f 1 = I n ∧ f 5 = I 0) (fun i => 0) (by kernel_rfl) 0 (by simp) ?_
    rintro i f _ ⟨rfl, f0, f1, f5⟩
    simp -dsimp [f0, f1, f5, puHn]
    refine appendVW_nil (by simp) (by simp) (fun hy => by cases hy) (fun _ => ?_)
    simp -dsimp
    exact ⟨some H.length, by rw [hE]; rfl, ⟨fun k hk => by cases hk; rw [hE]; simp [putI], fun h => by cases h⟩, by simp, fun i hi _ => List.getElem?_append_left hi, .inr ⟨_, rfl, Nat.le_refl _⟩⟩
  | some k =>
    have q := hr.row k rfl
    have hkl := lt_of_get q
    simp -dsimp [hrow]
    refine loop_rule (hn := puHn) (od := puOd) (fun (i : Nat) f H' => H = H' ∧ f 0 = .hs k 0 l.length l.length ∧ f 1 = I n ∧ f 5 = I i ∧ i ≤ l.length ∧ l.take i ++ putI n (l.drop i) = E) (fun i => l.length - i) (by kernel_rfl) 0 (by simp [hE]) ?_
    rintro i f _ ⟨rfl, f0, f1, f5, hi, hinv⟩
    simp -dsimp [f0, f1, f5, q]
    refine condVW_introD (fun hlt => ?_) (fun hlt => ?_)
    · have hlt' : i < l.length := by omega
      have hx := List.getElem?_eq_getElem hlt'
      have htk : l.take (i + 1) = l.take i ++ [l[i]] := List.take_succ_eq_append_getElem hlt'
      rw [drop_cons hlt'] at hinv
      have hdr : l.drop i = l[i] :: l.drop (i + 1) := drop_cons hlt'
      obtain ⟨x, hxe⟩ : ∃ x, x = l[i] := ⟨_, rfl⟩
      rw [← hxe] at hinv hx htk hdr
      clear hxe
      rw [putI] at hinv
      have hxc : (l.map fun n => [I n])[i]? = some [I x] := by rw [List.getElem?_map, hx]; rfl
      simp -dsimp [f0, f1, f5, q, hxc]
      refine ⟨hlt', ?_⟩
      simp -dsimp [f0, f1, f5, q, hxc]
      refine condVW_introEq (fun he => ?_) (fun he => ?_)
      · rw [if_pos he] at hinv
        have : E = l := by rw [← hinv, ← hdr, List.take_append_drop]
        simp -dsimp [f0]
        exact ⟨some k, by rw [this]; rfl, by rw [this]; exact hr, .refl _ _⟩
      · rw [if_neg he] at hinv
        simp -dsimp [f0, f1, f5, q, hxc]
        refine ⟨hlt', ?_⟩
        simp -dsimp [f0, f1, f5, q, hxc]
        by_cases hlt2 : x < n
        · have hn2 : ¬ n < x := by omega
          rw [if_neg hn2] at hinv
          have hd2 : decide (n < x) = false := decide_eq_false hn2
          simp -dsimp [f0, f1, f5, hd2]
          exact ⟨i + 1, by omega, wrapS (by omega), by omega, by rw [htk, List.append_assoc]; exact hinv⟩
        · have hn2 : n < x := by omega
          rw [if_pos hn2] at hinv
          have hd2 : decide (n < x) = true := decide_eq_true hn2
          simp -dsimp [f0, f1, f5, hd2, puHn, puOd, q]
          have s1 : ∀ M : List Blk, M[k]? = some (.row 3 1 (l.map fun n => [I n])) → srcEs M 1 (.hs k 0 i l.length) = some ((l.take i).map fun n => [I n]) := fun M h => by
            simp only [srcEs, h, List.length_map, and_self, if_true, List.drop_zero, List.map_take]
          have s2 : ∀ M : List Blk, M[k]? = some (.row 3 1 (l.map fun n => [I n])) → srcEs M 1 (.hs k i (l.length - i) l.length) = some ((l.drop i).map fun n => [I n]) := fun M h => by
            simp only [srcEs, h, List.length_map, and_self, if_true, List.map_drop]
            rw [List.take_of_length_le (by simp)]
          refine ⟨hi, ?_⟩
          simp -dsimp [f0, f1, f5, hd2, puHn, puOd, q]
          refine ⟨⟨hi, .inr hlt'⟩, ?_⟩
          have s1' := s1 H q
          simp -dsimp [f0, f1, f5, hd2, puHn, puOd, q, s1']
          refine app_at (n := 0) (h := none) (es := []) (t := 3) (sz := 1) ⟨fun _ h => (by cases h), fun _ => rfl⟩ rfl rfl rfl (by simp; omega) (by simp; omega) ?_
          intro h1 H1 hr1 st1
          rw [← List.map_take] at hr1
          have q1 := st1.old q (by simp)
          simp -dsimp [f0, f1, f5, hd2, puHn, puOd, q1, hi, hlt']
          have el : ((l.take i).map fun n => [I n]).length = i := by simp; omega
          refine app_at (h := h1) (es := [] ++ (l.take i).map fun n => [I n]) (t := 3) (sz := 1) hr1 (by simp; omega) rfl rfl (by simp; omega) (by simp; omega) ?_
          intro h2 H2 hr2 st2
          have q2 : H2[k]? = some (.row 3 1 (l.map fun n => [I n])) := st2.old q1 (fun e => by
            rcases st1.new with e1 | ⟨j, e1, hj⟩
            · rw [e1] at e; cases e
            · rw [e1] at e; cases e; omega)
          simp -dsimp [f0, f1, f5, hd2, puHn, puOd, q2, hi, hlt']
          have s2' := s2 H2 q2
          simp -dsimp [f0, f1, f5, hd2, puHn, puOd, q2, hi, hlt', s2']
          refine app_at (h := h2) (es := ([] ++ (l.take i).map fun n => [I n]) ++ [[I n]]) (t := 3) (sz := 1) hr2 (by simp; omega) rfl rfl (by simp; omega) (by simp; omega) ?_
          intro h3 H3 hr3 st3
          have hEe : ([] ++ (l.take i).map fun n => [I n]) ++ [[I n]] ++ ((l.map fun n => [I n]).drop i) = E.map fun n => [I n] := by
            rw [← hinv, ← List.map_drop, hdr]; simp
          rw [hEe] at hr3
          rw [hEe]
          simp -dsimp
          refine ⟨h3, rfl, hr3, ?_⟩
          have st := (st1.trans st2).trans st3
          refine ⟨st.len, fun j hj hne => st.get j hj (by simp), ?_⟩
          rcases st.new with e | e
          · rw [e] at hr3
            have := hr3.nil rfl
            rw [← hinv] at this
            simp at this
          · exact .inr e
    · have hnil : l.drop i = [] := List.drop_of_length_le (by omega)
      have hall : l.take i = l := List.take_of_length_le (by omega)
      rw [hnil, hall, putI] at hinv
      simp -dsimp [f0, f1, puHn]
      refine appendVW_hs (es := l.map fun n => [I n]) q (by simp) (by simp) (by simp; omega) (by simp; omega) ?_
      simp -dsimp
      exact ⟨some k, by rw [← hinv]; simp [hrow], ⟨fun j hj => by cases hj; rw [← hinv]; simp [hkl], fun h => by cases h⟩, ⟨by simp, fun j hj hne => by rw [List.getElem?_set_ne (fun e => hne (by rw [e]))], .inl rfl⟩⟩
end Go.Proofs
namespace Go.Proofs
open Go.Mu
theorem riseL_id {a : List Int} (h : Rising a) : riseL a = a := (rise_eq h fun _ => Iff.rfl).symm
theorem riseL_snoc (a : List Int) (x : Int) : riseL (a ++ [x]) = putI x (riseL a) := by unfold riseL; rw [List.foldl_append]; rfl
def SortR (H : List Blk) (E : List Int) (e : AE) (M : List Blk) : Prop := ∃ h, e = .ret (hrow h E.length) ∧ OwnI H M h E
theorem sorted17_own (l : List Int) (hl : l.length ≤ 2^37) (H : List Blk) : ACalls Tryz.prog 67 [Int.sl l] H (SortR H (riseL l)) := by
  refine acalls_of_vc (hn := fun _ => false) (od := fun _ => none) Tryz.func67 rfl (by kernel_rfl) ?_
  simp -dsimp
  refine loop_rule (hn := fun _ => false) (od := fun _ => none) (fun (i : Nat) f M => f 0 = Int.sl l ∧ f 4 = I i ∧ i ≤ l.length ∧ ∃ h, f 3 = hrow h (riseL (l.take i)).length ∧ OwnI H M h (riseL (l.take i))) (fun i => l.length - i) (by kernel_rfl) 0 (by refine ⟨by simp, by simp, by omega, none, rfl, .nil1 _ _ _⟩) ?_
  rintro i f M ⟨f0, f4, hi, h, f3, ow⟩
  simp -dsimp [f0, f4]
  refine condVW_introD (fun hlt => ?_) (fun hlt => ?_)
  · have hlt' : i < l.length := by omega
    have hx := List.getElem?_eq_getElem hlt'
    have hnew := riseL_take hlt'
    have hrl := riseL_len_take l i
    obtain ⟨n, hn⟩ : ∃ n, n = l[i] := ⟨_, rfl⟩
    rw [← hn] at hx hnew
    have cp := rput_ok (riseL (l.take i)) n h M ow.at' (by omega)
    simp -dsimp [f0, f3, f4, hx]
    refine acallsW_of cp ?_
    rintro e M' ⟨h', rfl, r, s⟩
    rw [← hnew] at r ⊢
    simp -dsimp [f0, f3, f4, hx]
    exact ⟨i + 1, by omega, wrapS (by omega), by omega, h', rfl, ow.step r s⟩
  · simp -dsimp [f3]
    rw [List.take_of_length_le (by omega)] at ow ⊢
    exact ⟨h, rfl, ow⟩
theorem sorted17_ok (l : List Int) (hl : l.length ≤ 2^37) (H : List Blk) : ACalls Tryz.prog 67 [Int.sl l] H (fun e H' => e = .ret (Int.sl (riseL l)) ∧ H' = H) := by
  refine acalls_under fun hu _ => acalls_weakE (acalls_tidy ((sorted17_own l hl H).mono ?_))
  rintro e M ⟨h, rfl, ow⟩
  exact tidy_rowA hu ow (int_frzB _) (map_len _).symm ⟨rfl, rfl⟩
theorem sorted17_arg (l : List Int) (hl : l.length ≤ 2^37) (B M : List Blk) (h : Option Nat) (hu : underH B.length B = true) (o : OwnI B M h l) : ACalls Tryz.prog 67 [hrow h l.length] M (SortR B (riseL l)) := by
  cases h with
  | none =>
    have : l = [] := List.map_eq_nil_iff.1 (o.nil rfl)
    subst this
    refine acalls_weak (args := [hrow none ([] : List Int).length]) (args' := [Int.sl []]) (.cons (.nil 1) .nil) ((sorted17_own [] hl M).mono ?_)
    rintro e M' ⟨h', rfl, ow⟩
    obtain ⟨L, rfl⟩ := o.pre
    exact ⟨h', rfl, ow.less⟩
  | some j =>
    obtain ⟨L, rfl⟩ := o.pre
    obtain ⟨q, rfl⟩ : ∃ q, j = B.length + q := ⟨j - B.length, by have := o.new j rfl; omega⟩
    have hj := o.row _ rfl
    refine acalls_give (B.length + q) 1 3 (l.map fun n => [I n]) hj (int_frzB l) ?_
    rw [frzH_app q hu]
    have e : frzL (B.length + q) 1 (l.map fun n => [I n]) [hrow (some (B.length + q)) l.length] = [Int.sl l] := by
      simp [frzL, hrow, AV.frz]
      rw [List.take_of_length_le (by simp)]
    rw [e]
    refine (sorted17_own l hl _).mono ?_
    rintro e M' ⟨h', rfl, ow⟩
    exact ⟨h', rfl, ow.less⟩
theorem lives_ok (l : Linear) (hs : l.Sm) (ho : LinOk l) (H : List Blk) : ACalls Tryz.prog 61 [.agg l.cells] H (fun e H' => e = .ret (Ints.sl (lvL l)) ∧ H' = H) := by
  refine acalls_under fun hu _ => acalls_weakE (acalls_tidy (acalls_of_vc (hn := fun d => d == 17) (od := fun _ => none) Tryz.func61 rfl (by kernel_rfl) ?_))
  have hc := hs.code
  have cl := fun (k : Nat) (hk : k ≤ l.code.length) H => rlive_ok l hs ho k hk H
  simp only [Linear.cells] at cl
  obtain ⟨B, hB⟩ : ∃ B, B = H ++ [.box 25 [I l.vars, Int.sl l.params, Int.sl l.rets, I l.frame, Line.sl l.code]] := ⟨_, rfl⟩
  have hb : B[H.length]? = some (.box 25 [I l.vars, Int.sl l.params, Int.sl l.rets, I l.frame, Line.sl l.code]) := by rw [hB]; simp
  have hll : (lvL l).length = l.code.length := by unfold lvL; simp
  have hlg : ∀ i, i < l.code.length → (lvL l)[i]? = some (liveL l i) := fun i hi => by unfold lvL; rw [List.getElem?_map, List.getElem?_range hi]; rfl
  simp -dsimp
  rw [← hB]
  replace hB := Hid.mk hB
  refine loop_rule (hn := fun d => d == 17) (od := fun _ => none) (fun (i : Nat) f M => f 1 = .bp H.length 0 ∧ f 4 = I i ∧ i ≤ l.code.length ∧ ∃ h, f 3 = hrow h i ∧ OwnLs B M h ((lvL l).take i)) (fun i => l.code.length - i) (by kernel_rfl) 0 (by refine ⟨by simp, by simp, by omega, none, by simp; rfl, .nil1 _ _ _⟩) ?_
  rintro i f M ⟨f1, f4, hi, h, f3, ow⟩
  have r1 := ow.old hb
  simp -dsimp [f1, f4, r1]
  refine condVW_introD (fun hlt => ?_) (fun hlt => ?_)
  · simp -dsimp [f1, f3, f4, r1]
    refine acallsW_det (cl i hi M) ?_
    simp -dsimp [f1, f3, f4, r1]
    refine app_own ow (by simp; omega) rfl rfl (by simp; omega) (by simp; omega) ?_
    intro h' M' ow' _
    have htk : (lvL l).take (i + 1) = (lvL l).take i ++ [liveL l i] := by rw [List.take_add_one, hlg i (by omega)]; rfl
    have ow2 : OwnLs B M' h' ((lvL l).take (i + 1)) := by unfold OwnLs; rw [htk, List.map_append]; exact ow'
    have hlen : (((lvL l).take i).map (fun x => [Int.sl x]) ++ [[Int.sl (liveL l i)]]).length = i + 1 := by simp; omega
    rw [show (AV.vs 1 (List.map (fun n => [I n]) (liveL l i))) = Int.sl (liveL l i) from rfl, hlen]
    simp -dsimp [f1, f3, f4, r1]
    exact ⟨i + 1, by omega, wrapS (by omega), by omega, h', rfl, ow2⟩
  · simp -dsimp [f3]
    rw [List.take_of_length_le (by omega), hB.out] at ow
    exact tidy_rowA hu ow.less (ints_frzB _) (by simp; omega) ⟨rfl, rfl⟩
theorem first_ok (l : Linear) (hs : l.Sm) (ho : LinOk l) (H : List Blk) : ACalls Tryz.prog 66 [.agg l.cells, Ints.sl (lvL l)] H (fun e H' => e = .ret (Int.sl (liveL l 0)) ∧ H' = H) := by
  refine acalls_tidy (acalls_of_vc (hn := fun _ => false) (od := fun _ => none) Tryz.func66 rfl (by kernel_rfl) ?_)
  have cs := fun H => sorted17_ok l.rets (by have := hs.rets; omega) H
  simp -dsimp
  by_cases h0 : l.code.length = 0
  · have he := liveL_end ho
    rw [h0] at he
    rw [← he] at cs
    have hn : l.code = [] := List.eq_nil_of_length_eq_zero h0
    simp -dsimp [hn]
    refine acallsW_det (cs _) ?_
    simp -dsimp
    exact tidy_same rfl ⟨rfl, rfl⟩
  · have hne : l.code ≠ [] := fun e => h0 (by rw [e]; rfl)
    have hb : ((l.code.length : Int) == 0) = false := by simp [hne]
    have hb2 : (l.code.length == 0) = false := by simp [hne]
    have hg : (lvL l)[0]? = some (liveL l 0) := by unfold lvL; rw [List.getElem?_map, List.getElem?_range (by omega)]; rfl
    have hll : (lvL l).length = l.code.length := by unfold lvL; simp
    simp -dsimp [hb, hb2, hg, hne]
    exact tidy_same rfl ⟨rfl, rfl⟩
noncomputable def behTo (l : Linear) (i q : Nat) : List Int := ((nxt l i).take q).flatMap fun k => liveL l k.toNat
theorem rbehind_ok (l : Linear) (hs : l.Sm) (ho : LinOk l) (i : Nat) (hi : i < l.code.length) (H : List Blk) : ACalls Tryz.prog 63 [.agg l.cells, Ints.sl (lvL l), I i] H (fun e H' => e = .ret (Int.sl (behL l i)) ∧ H' = H) := by
  refine acalls_under fun hu _ => acalls_weakE (acalls_tidy (acalls_of_awp Tryz.func63 rfl (by kernel_rfl) ?_))
  have hc := hs.code
  have hv := ho.vars
  have cs := fun H => sorted17_ok l.rets (by have := hs.rets; omega) H
  have cn := fun H => rnext_ok l ho (by omega) i hi H
  simp only [Linear.cells] at cn
  obtain ⟨B, hB⟩ : ∃ B, B = H ++ [.box 25 [I l.vars, Int.sl l.params, Int.sl l.rets, I l.frame, Line.sl l.code]] := ⟨_, rfl⟩
  have hb : B[H.length]? = some (.box 25 [I l.vars, Int.sl l.params, Int.sl l.rets, I l.frame, Line.sl l.code]) := by rw [hB]; simp
  obtain ⟨x, hx⟩ : ∃ x, l.code[i]? = some x := ⟨_, List.getElem?_eq_getElem hi⟩
  have hlg : ∀ k, k < l.code.length → (lvL l)[k]? = some (liveL l k) := fun k hk => by unfold lvL; rw [List.getElem?_map, List.getElem?_range hk]; rfl
  have he := liveL_end ho
  rw [← he] at cs
  have h5 : x.kind = 5 → liveL l l.code.length = behL l i := fun h => by
    unfold behL nxt
    rw [hx]
    simp only [h, if_true, List.flatMap_cons, List.flatMap_nil, List.append_nil, Int.toNat_natCast]
    exact (riseL_id (liveL_rise l _)).symm
  replace hB := Hid.mk hB
  replace h5 := Hid.mk h5
  refine awp_cut (fun _ => false) (fun _ => none) (fun f M => B = M ∧ f 1 = Ints.sl (lvL l) ∧ f 2 = I i ∧ f 3 = .bp H.length 0) (by kernel_rfl) ?_ ?_
  · simp -dsimp [hB.out]
  rintro g _ ⟨rfl, g1, g2, g3⟩
  refine awp_cut (fun _ => false) (fun _ => none) (fun f M => B = M ∧ f 1 = Ints.sl (lvL l) ∧ f 2 = I i ∧ f 3 = .bp H.length 0) (by kernel_rfl) ?_ ?_
  · have hi' := Hid.mk hi
    by_cases hk : x.kind = 5
    · have hkb : (x.kind == 5) = true := by simpa using hk
      simp -dsimp [g1, g2, g3, hb, hx, hkb]
      refine acallsW_det (cs _) ?_
      simp -dsimp [g1, g2, g3]
      rw [hB.out]
      exact tidy_same rfl ⟨_, .refl _, by rw [h5.out hk], rfl⟩
    · have hkb : (x.kind == 5) = false := by simpa using hk
      simp -dsimp [g1, g2, g3, hb, hx, hkb]
  clear g g1 g2 g3
  rintro g _ ⟨rfl, g1, g2, g3⟩
  refine awp_cut (fun _ => false) (fun _ => none) (fun f M => B = M ∧ f 1 = Ints.sl (lvL l) ∧ f 3 = .bp H.length 0 ∧ f 7 = Int.sl (nxt l i)) (by kernel_rfl) ?_ ?_
  · simp -dsimp [g1, g2, g3, hb]
    refine acallsW_det (cn _) ?_
    simp -dsimp [g1, g2, g3]
  clear g g1 g2 g3
  rintro g _ ⟨rfl, g1, g3, g7⟩
  refine awp_cut (fun _ => false) (fun _ => none) (fun f M => B = M ∧ f 1 = Ints.sl (lvL l) ∧ f 3 = .bp H.length 0 ∧ f 7 = Int.sl (nxt l i) ∧ f 8 = nilS) (by kernel_rfl) ?_ ?_
  · simp -dsimp [g1, g3, g7]
  clear g g1 g3 g7
  rintro g _ ⟨rfl, g1, g3, g7, g8⟩
  refine awp_cutA (fun f M => ∃ h, f 8 = hrow h (behL l i).length ∧ OwnI B M h (behL l i)) ?_ ?_
  rotate_left
  · clear g g1 g3 g7 g8
    rintro g M ⟨h, g8, ow⟩
    rw [hB.out] at ow
    refine awp_all (fun _ => false) (fun _ => none) (by kernel_rfl) ?_
    simp -dsimp [g8]
    exact tidy_rowA hu ow.less (int_frzB _) (by simp) ⟨rfl, rfl⟩
  refine awp_cut (fun _ => false) (fun _ => none) (fun f M => B = M ∧ f 1 = Ints.sl (lvL l) ∧ f 3 = .bp H.length 0 ∧ f 7 = Int.sl (nxt l i) ∧ f 8 = nilS ∧ f 9 = I 0) (by kernel_rfl) ?_ ?_
  · simp -dsimp [g1, g3, g7, g8]
  clear g g1 g3 g7 g8
  rintro g _ ⟨rfl, g1, g3, g7, g8, g9⟩
  refine awp_block ?_
  have nl := nxt_len l i
  refine awp_loopI (fun (q : Nat) f M => f 1 = Ints.sl (lvL l) ∧ f 3 = .bp H.length 0 ∧ f 7 = Int.sl (nxt l i) ∧ f 9 = I q ∧ q ≤ (nxt l i).length ∧ ∃ h, f 8 = hrow h (riseL (behTo l i q)).length ∧ OwnI B M h (riseL (behTo l i q))) (fun q => (nxt l i).length - q) 0
    ⟨g1, g3, g7, g9, Nat.zero_le _, none, g8, .nil1 _ _ _⟩ ?_
  clear g g1 g3 g7 g8 g9
  rintro q g M ⟨g1, g3, g7, g9, hq, h, g8, ow⟩
  refine awp_cut (fun _ => false) (fun _ => none) (fun f M' => M = M' ∧ f 1 = Ints.sl (lvL l) ∧ f 3 = .bp H.length 0 ∧ f 7 = Int.sl (nxt l i) ∧ f 9 = I q ∧ q < (nxt l i).length ∧ f 8 = hrow h (riseL (behTo l i q)).length) (by kernel_rfl) ?_ ?_
  · simp -dsimp [g1, g3, g7, g8, g9]
    refine condVW_introD (fun hlt => ?_) (fun hlt => ?_)
    · simp -dsimp [g1, g3, g7, g8, g9]
      omega
    · simp -dsimp [g1, g3, g7, g8, g9]
      have : q = (nxt l i).length := by omega
      have e : behTo l i q = (nxt l i).flatMap fun k => liveL l k.toNat := by unfold behTo; rw [List.take_of_length_le (by omega)]
      rw [e] at ow ⊢
      exact ⟨h, rfl, ow⟩
  clear g g1 g3 g7 g8 g9
  rintro g _ ⟨rfl, g1, g3, g7, g9, hlt, g8⟩
  have hgk := List.getElem?_eq_getElem hlt
  have hkm : (nxt l i)[q] ∈ nxt l i := List.getElem_mem hlt
  have hki := nxt_in ho hkm
  have htk : (nxt l i).take (q + 1) = (nxt l i).take q ++ [(nxt l i)[q]] := List.take_succ_eq_append_getElem hlt
  obtain ⟨kz, hkz⟩ : ∃ kz, kz = (nxt l i)[q] := ⟨_, rfl⟩
  rw [← hkz] at hgk hkm hki htk
  clear hkz
  obtain ⟨k, rfl⟩ : ∃ k : Nat, kz = k := ⟨kz.toNat, by omega⟩
  have hbt : behTo l i (q + 1) = behTo l i q ++ liveL l k := by unfold behTo; rw [htk]; simp
  refine awp_cutA (fun f M => f 1 = Ints.sl (lvL l) ∧ f 3 = .bp H.length 0 ∧ f 7 = Int.sl (nxt l i) ∧ f 9 = I q ∧ ∃ h, f 8 = hrow h (riseL (behTo l i (q + 1))).length ∧ OwnI B M h (riseL (behTo l i (q + 1)))) ?_ ?_
  rotate_left
  · clear g g1 g3 g7 g8 g9 ow
    rintro g M ⟨g1, g3, g7, g9, h, g8, ow⟩
    refine awp_all (fun _ => false) (fun _ => none) (by kernel_rfl) ?_
    simp -dsimp [g1, g3, g7, g8, g9]
    exact ⟨q + 1, by omega, wrapS (by omega), by omega, h, rfl, ow⟩
  refine awp_block ?_
  have r1 := ow.old hb
  refine awp_cut (fun _ => false) (fun _ => none) (fun f M' => M = M' ∧ f 1 = Ints.sl (lvL l) ∧ f 3 = .bp H.length 0 ∧ f 7 = Int.sl (nxt l i) ∧ f 9 = I q ∧ f 8 = hrow h (riseL (behTo l i q)).length ∧ f 10 = Int.sl (liveL l l.code.length)) (by kernel_rfl) ?_ ?_
  · simp -dsimp [g1, g3, g7, g8, g9, r1]
    refine acallsW_det (cs _) ?_
    simp -dsimp [g1, g3, g7, g8, g9]
  clear g g1 g3 g7 g8 g9
  rintro g _ ⟨rfl, g1, g3, g7, g9, g8, g10⟩
  refine awp_cut (fun _ => false) (fun _ => none) (fun f M' => M = M' ∧ f 1 = Ints.sl (lvL l) ∧ f 3 = .bp H.length 0 ∧ f 7 = Int.sl (nxt l i) ∧ f 9 = I q ∧ f 8 = hrow h (riseL (behTo l i q)).length ∧ f 10 = Int.sl (liveL l k)) (by kernel_rfl) ?_ ?_
  · by_cases hkn : k < l.code.length
    · have hkb : decide (k < l.code.length) = true := decide_eq_true hkn
      have hg := hlg k hkn
      have hi2 := Hid.mk hi
      have hlt2 := Hid.mk hlt
      simp -dsimp [g1, g3, g7, g8, g9, g10, r1, hgk, hkb, hg]
    · have hkb : decide (k < l.code.length) = false := decide_eq_false hkn
      have hke : k = l.code.length := by omega
      simp -dsimp [g1, g3, g7, g8, g9, g10, r1, hgk, hkb]
      rw [hke]
  clear g g1 g3 g7 g8 g9 g10
  rintro g _ ⟨rfl, g1, g3, g7, g9, g8, g10⟩
  refine awp_cut (fun _ => false) (fun _ => none) (fun f M' => M = M' ∧ f 1 = Ints.sl (lvL l) ∧ f 3 = .bp H.length 0 ∧ f 7 = Int.sl (nxt l i) ∧ f 9 = I q ∧ f 8 = hrow h (riseL (behTo l i q)).length ∧ f 10 = Int.sl (liveL l k) ∧ f 11 = I 0) (by kernel_rfl) ?_ ?_
  · simp -dsimp [g1, g3, g7, g8, g9, g10]
  clear g g1 g3 g7 g8 g9 g10
  rintro g _ ⟨rfl, g1, g3, g7, g9, g8, g10, g11⟩
  have bl : ∀ n, (riseL (behTo l i q ++ (liveL l k).take n)).length ≤ l.vars.toNat := fun n => by
    have := rising_len (a := 0) (b := l.vars) (riseL_rise (behTo l i q ++ (liveL l k).take n)) fun x hx => by
      rw [riseL_mem, List.mem_append] at hx
      rcases hx with hx | hx
      · unfold behTo at hx
        obtain ⟨k', _, hk'⟩ := List.mem_flatMap.1 hx
        exact ((liveL_mem _ _ _).1 hk').1
      · exact ((liveL_mem _ _ _).1 (List.mem_of_mem_take hx)).1
    omega
  have b3 := liveL_len l k
  obtain ⟨li, hli⟩ : ∃ li, li = liveL l k := ⟨_, rfl⟩
  rw [← hli] at bl b3 g10 hbt
  obtain ⟨pr, hpr⟩ : ∃ pr, pr = behTo l i q := ⟨_, rfl⟩
  rw [← hpr] at bl g8 hbt ow
  rw [hbt]
  refine awp_all (fun _ => false) (fun _ => none) (by kernel_rfl) ?_
  simp -dsimp [g1, g3, g7, g8, g9, g10, g11]
  refine loop_rule (hn := fun _ => false) (od := fun _ => none) (fun (n : Nat) f M => f 1 = Ints.sl (lvL l) ∧ f 3 = .bp H.length 0 ∧ f 7 = Int.sl (nxt l i) ∧ f 9 = I q ∧ f 10 = Int.sl li ∧ f 11 = I n ∧ n ≤ li.length ∧ ∃ h, f 8 = hrow h (riseL (pr ++ li.take n)).length ∧ OwnI B M h (riseL (pr ++ li.take n))) (fun n => li.length - n) (by kernel_rfl) 0 (by refine ⟨by simp [g1], by simp [g3], by simp [g7], by simp [g9], by simp [g10], by simp [g11], by omega, h, by simp [g8], by simpa using ow⟩) ?_
  clear g g1 g3 g7 g8 g9 g10 g11 ow h r1 M
  rintro n g M ⟨g1, g3, g7, g9, g10, g11, hn, h, g8, ow⟩
  have hi2 := Hid.mk hi
  have hlt2 := Hid.mk hlt
  simp -dsimp [g1, g3, g7, g8, g9, g10, g11]
  refine condVW_introD (fun hln => ?_) (fun hln => ?_)
  · have hln' : n < li.length := by omega
    have hxn := List.getElem?_eq_getElem hln'
    have htn : li.take (n + 1) = li.take n ++ [li[n]] := List.take_succ_eq_append_getElem hln'
    obtain ⟨w, hw⟩ : ∃ w, w = li[n] := ⟨_, rfl⟩
    rw [← hw] at hxn htn
    have hput : riseL (pr ++ li.take (n + 1)) = putI w (riseL (pr ++ li.take n)) := by rw [htn, ← List.append_assoc, riseL_snoc]
    have bn := bl n
    have cp := rput_ok (riseL (pr ++ li.take n)) w h M ow.at' (by omega)
    rw [← hput] at cp
    simp -dsimp [g1, g3, g7, g8, g9, g10, g11, hxn]
    refine acallsW_of cp ?_
    rintro e M' ⟨h', rfl, r, s⟩
    simp -dsimp [g1, g3, g7, g8, g9, g10, g11, hxn]
    exact ⟨n + 1, by omega, wrapS (by omega), by omega, h', rfl, ow.step r s⟩
  · simp -dsimp [g1, g3, g7, g8, g9, g10, g11]
    rw [List.take_of_length_le (by omega)] at ow ⊢
    exact ⟨h, rfl, ow⟩
end Go.Proofs
namespace Go.Proofs
open Go.Mu
def cntTo (l : Linear) (i : Nat) : List Int := (l.params ++ l.rets) ++ (l.code.take i).flatMap fun x => x.uses ++ x.defs
theorem cntTo_succ {l : Linear} {i : Nat} {x : Line} (hx : l.code[i]? = some x) : cntTo l (i + 1) = (cntTo l i ++ x.uses) ++ x.defs := by
  unfold cntTo
  rw [List.take_add_one, hx]
  simp [List.flatMap_append]
theorem cntTo_end (l : Linear) : riseL (cntTo l l.code.length) = cntL l := by
  refine rise_eq (riseL_rise _) fun y => ?_
  rw [riseL_mem]
  unfold cntTo cntRaw
  rw [List.take_of_length_le (Nat.le_refl _)]
  simp only [List.mem_append, List.mem_flatMap]
  constructor
  · rintro (h | ⟨x, hx, h | h⟩)
    · exact .inl h
    · exact .inr ⟨x, hx, .inl ((riseL_mem _ _).1 h)⟩
    · exact .inr ⟨x, hx, .inr h⟩
  · rintro (h | ⟨x, hx, h | h⟩)
    · exact .inl h
    · exact .inr ⟨x, hx, .inl ((riseL_mem _ _).2 h)⟩
    · exact .inr ⟨x, hx, .inr h⟩
theorem rise_in {l : Linear} {a : List Int} (h : ∀ v ∈ a, 0 ≤ v ∧ v < l.vars) : (riseL a).length ≤ l.vars.toNat := by
  have := rising_len (a := 0) (b := l.vars) (riseL_rise a) fun x hx => h x ((riseL_mem _ _).1 hx)
  omega
theorem cntTo_in {l : Linear} (ho : LinOk l) {i : Nat} {v : Int} (hv : v ∈ cntTo l i) : 0 ≤ v ∧ v < l.vars := by
  unfold cntTo at hv
  rw [List.mem_append, List.mem_append, List.mem_flatMap] at hv
  rcases hv with (hv | hv) | ⟨x, hx, hv⟩
  · exact ho.params v hv
  · exact ho.rets v hv
  · obtain ⟨_, l2, l3⟩ := line_in (ho.lines x (List.mem_of_mem_take hx))
    rcases List.mem_append.1 hv with hv | hv
    · exact l2 v ((riseL_mem _ _).1 hv)
    · exact l3 v hv
def coHn (d : Nat) : Bool := d == 11 || d == 14 || d == 15
def coOd (i : Nat) : Option OPlan := if i = 1 then some [(0, []), (1, []), (3, []), (4, []), (2, [3, 4]), (5, []), (6, []), (7, [])] else none
theorem rcounts_ok (l : Linear) (hs : l.Sm) (ho : LinOk l) (H : List Blk) : ACalls Tryz.prog 26 [.agg l.cells] H (fun e H' => e = .ret (Int.sl (cntL l)) ∧ H' = H) := by
  refine acalls_under fun hu _ => acalls_weakE (acalls_tidy (acalls_of_awp Tryz.func26 rfl (by kernel_rfl) ?_))
  have hc := hs.code
  have hp := hs.params
  have hr := hs.rets
  have hv := ho.vars
  obtain ⟨B, hB⟩ : ∃ B, B = H ++ [.box 25 [I l.vars, Int.sl l.params, Int.sl l.rets, I l.frame, Line.sl l.code]] := ⟨_, rfl⟩
  have hb : B[H.length]? = some (.box 25 [I l.vars, Int.sl l.params, Int.sl l.rets, I l.frame, Line.sl l.code]) := by rw [hB]; simp
  have huB : underH B.length B = true := by
    rw [hB]
    exact underH_appF (n := H.length) (by simp) hu (fun b hb => by
      obtain rfl := List.mem_singleton.1 hb
      rfl)
  have huB := Hid.mk huB
  replace hB := Hid.mk hB
  have hu := Hid.mk hu
  refine awp_cut (fun _ => false) (fun _ => none) (fun f M => B = M ∧ f 1 = .bp H.length 0) (by kernel_rfl) ?_ ?_
  · simp -dsimp [hB.out]
  rintro g _ ⟨rfl, g1⟩
  refine awp_cut coHn coOd (fun f M => f 1 = .bp H.length 0 ∧ ∃ h, f 3 = hrow h (riseL (cntTo l 0)).length ∧ OwnI B M h (riseL (cntTo l 0))) (by kernel_rfl) ?_ ?_
  · have e14 : coHn 14 = true := rfl
    have e11 : coHn 11 = true := rfl
    have e15 : coHn 15 = true := rfl
    simp -dsimp [g1, hb, coOd, e14, e11, e15]
    refine app_own (h := none) (es := []) (Own.nil1 3 1 B) rfl rfl rfl (by simp; omega) (by simp; omega) ?_
    intro h1 M1 o1 _
    have r1 := o1.old hb
    simp -dsimp [g1, hb, r1, coOd, e14, e11, e15]
    refine app_own o1 (by simp) rfl rfl (by simp; omega) (by simp; omega) ?_
    intro h2 M2 o2 _
    have o2' : OwnI B M2 h2 (l.params ++ l.rets) := by unfold OwnI; rw [List.map_append]; simpa using o2
    have cs := sorted17_arg (l.params ++ l.rets) (by simp; omega) B M2 h2 huB.out o2'
    have e2 : ([] ++ (l.params.map fun n => [I n]) ++ (l.rets.map fun n => [I n])).length = (l.params ++ l.rets).length := by simp
    rw [e2]
    simp -dsimp [g1, hb, r1, coOd, e14, e11, e15]
    rw [List.length_append] at cs
    refine acallsW_of cs ?_
    rintro e M' ⟨h', rfl, ow⟩
    have e0 : cntTo l 0 = l.params ++ l.rets := by simp [cntTo]
    simp -dsimp [g1, hb, r1, coOd, e14, e11, e15]
    rw [e0]
    exact ⟨h', rfl, ow⟩
  clear g g1
  rintro g M ⟨g1, h, g3, ow⟩
  refine awp_cutA (fun f M => ∃ h, f 3 = hrow h (cntL l).length ∧ OwnI B M h (cntL l)) ?_ ?_
  rotate_left
  · clear g g1 g3 ow h M
    rintro g M ⟨h, g3, ow⟩
    rw [hB.out] at ow
    refine awp_all (fun _ => false) (fun _ => none) (by kernel_rfl) ?_
    simp -dsimp [g3]
    exact tidy_rowA hu.out ow.less (int_frzB _) (by simp) ⟨rfl, rfl⟩
  refine awp_cut (fun _ => false) (fun _ => none) (fun f M' => M = M' ∧ f 1 = .bp H.length 0 ∧ f 3 = hrow h (riseL (cntTo l 0)).length ∧ f 4 = I 0) (by kernel_rfl) ?_ ?_
  · simp -dsimp [g1, g3]
  clear g g1 g3
  rintro g _ ⟨rfl, g1, g3, g4⟩
  refine awp_block ?_
  refine awp_loopI (fun (i : Nat) f M => f 1 = .bp H.length 0 ∧ f 4 = I i ∧ i ≤ l.code.length ∧ ∃ h, f 3 = hrow h (riseL (cntTo l i)).length ∧ OwnI B M h (riseL (cntTo l i))) (fun i => l.code.length - i) 0 ⟨g1, g4, Nat.zero_le _, h, g3, ow⟩ ?_
  clear g g1 g3 g4 ow h M
  rintro i g M ⟨g1, g4, hi, h, g3, ow⟩
  have r1 := ow.old hb
  refine awp_cut (fun _ => false) (fun _ => none) (fun f M' => M = M' ∧ f 1 = .bp H.length 0 ∧ f 4 = I i ∧ f 3 = hrow h (riseL (cntTo l i)).length ∧ i < l.code.length) (by kernel_rfl) ?_ ?_
  · simp -dsimp [g1, g3, g4, r1]
    refine condVW_introD (fun hlt => ?_) (fun hlt => ?_)
    · simp -dsimp [g1, g3, g4]
      omega
    · simp -dsimp [g1, g3, g4]
      have : i = l.code.length := by omega
      rw [this, cntTo_end] at ow ⊢
      exact ⟨h, rfl, ow⟩
  clear g g1 g3 g4
  rintro g _ ⟨rfl, g1, g4, g3, hlt⟩
  obtain ⟨x, hx⟩ : ∃ x, l.code[i]? = some x := ⟨_, List.getElem?_eq_getElem hlt⟩
  have hlx := ho.lines x (List.mem_of_getElem? hx)
  have cu := fun H => ruses_ok x l.vars hlx H
  simp only [Line.cells] at cu
  have ul := uses_len x
  have dl := defs_len x
  obtain ⟨_, ui, di⟩ := line_in hlx
  have bl1 : ∀ n, (riseL (cntTo l i ++ x.uses.take n)).length ≤ l.vars.toNat := fun n => rise_in fun v hv => by
    rcases List.mem_append.1 hv with hv | hv
    · exact cntTo_in ho hv
    · exact ui v ((riseL_mem _ _).1 (List.mem_of_mem_take hv))
  have bl2 : ∀ n, (riseL ((cntTo l i ++ x.uses) ++ x.defs.take n)).length ≤ l.vars.toNat := fun n => rise_in fun v hv => by
    rcases List.mem_append.1 hv with hv | hv
    · rcases List.mem_append.1 hv with hv | hv
      · exact cntTo_in ho hv
      · exact ui v ((riseL_mem _ _).1 hv)
    · exact di v (List.mem_of_mem_take hv)
  have hsucc := cntTo_succ hx
  have hlt2 := Hid.mk hlt
  refine awp_cutA (fun f M => f 1 = .bp H.length 0 ∧ f 4 = I i ∧ ∃ h, f 3 = hrow h (riseL (cntTo l (i + 1))).length ∧ OwnI B M h (riseL (cntTo l (i + 1)))) ?_ ?_
  rotate_left
  · clear g g1 g3 g4 ow h r1 M
    rintro g M ⟨g1, g4, h, g3, ow⟩
    refine awp_all (fun _ => false) (fun _ => none) (by kernel_rfl) ?_
    simp -dsimp [g1, g3, g4]
    exact ⟨i + 1, by omega, wrapS (by omega), by omega, h, rfl, ow⟩
  rw [hsucc]
  refine awp_block ?_
  refine awp_cut (fun _ => false) (fun _ => none) (fun f M' => M = M' ∧ f 1 = .bp H.length 0 ∧ f 4 = I i ∧ f 3 = hrow h (riseL (cntTo l i)).length ∧ f 5 = Int.sl x.uses ∧ f 6 = Int.sl x.defs) (by kernel_rfl) ?_ ?_
  · simp -dsimp [g1, g3, g4, r1, hx]
    refine acallsW_det (cu _) ?_
    simp -dsimp [g1, g3, g4]
  clear g g1 g3 g4
  rintro g _ ⟨rfl, g1, g4, g3, g5, g6⟩
  refine awp_cut (fun _ => false) (fun _ => none) (fun f M => f 1 = .bp H.length 0 ∧ f 4 = I i ∧ f 5 = Int.sl x.uses ∧ f 6 = Int.sl x.defs ∧ ∃ h, f 3 = hrow h (riseL (cntTo l i ++ x.uses)).length ∧ OwnI B M h (riseL (cntTo l i ++ x.uses))) (by kernel_rfl) ?_ ?_
  · simp -dsimp [g1, g4, g5, g6, g3]
    refine loop_rule (hn := fun _ => false) (od := fun _ => none) (fun (n : Nat) f M => f 1 = .bp H.length 0 ∧ f 4 = I i ∧ f 5 = Int.sl x.uses ∧ f 6 = Int.sl x.defs ∧ f 7 = I n ∧ n ≤ (x.uses).length ∧ ∃ h, f 3 = hrow h (riseL (cntTo l i ++ (x.uses).take n)).length ∧ OwnI B M h (riseL (cntTo l i ++ (x.uses).take n))) (fun n => (x.uses).length - n) (by kernel_rfl) 0 (by refine ⟨by simp [g1], by simp [g4], by simp [g5], by simp [g6], by simp, by omega, h, by simp [g3], by simpa using ow⟩) ?_
    clear g1 g4 g5 g6 g3 ow r1 h M g
    rintro n g M ⟨g1, g4, g5, g6, g7, hn, h, g3, ow⟩
    have r1 := ow.old hb
    simp -dsimp [g1, g4, g5, g6, g7]
    refine condVW_introD (fun hln => ?_) (fun hln => ?_)
    · have hln' : n < (x.uses).length := by omega
      have hxn := List.getElem?_eq_getElem hln'
      have hwm : (x.uses)[n] ∈ x.uses := List.getElem_mem hln'
      have htn : (x.uses).take (n + 1) = (x.uses).take n ++ [(x.uses)[n]] := by rw [List.take_add_one]; simp [hln']
      obtain ⟨w, hw⟩ : ∃ w, w = (x.uses)[n] := ⟨_, rfl⟩
      rw [← hw] at hxn htn hwm
      clear hw
      have hput : riseL (cntTo l i ++ (x.uses).take (n + 1)) = putI (w) (riseL (cntTo l i ++ (x.uses).take n)) := by rw [htn, ← List.append_assoc, riseL_snoc]
      have bn := bl1 n
      have cp := rput_ok (riseL (cntTo l i ++ (x.uses).take n)) (w) h M ow.at' (by omega)
      rw [← hput] at cp
      simp -dsimp [g1, g4, g5, g6, g3, g7, hxn]
      refine acallsW_of cp ?_
      rintro e M' ⟨h', rfl, r, s⟩
      simp -dsimp [g1, g4, g5, g6, g3, g7, hxn]
      exact ⟨n + 1, by omega, wrapS (by omega), by omega, h', rfl, ow.step r s⟩
    · simp -dsimp [g1, g4, g5, g6, g3, g7]
      rw [List.take_of_length_le (by first | omega | (simp; omega))] at ow ⊢
      exact ⟨h, rfl, ow⟩
  clear g1 g4 g5 g6 g3 ow r1 h M g
  rintro g M ⟨g1, g4, g5, g6, h, g3, ow⟩
  have r1 := ow.old hb
  obtain ⟨pr2, hpr2⟩ : ∃ p, p = cntTo l i ++ x.uses := ⟨_, rfl⟩
  rw [← hpr2] at bl2 g3 ow ⊢
  refine awp_cut (fun _ => false) (fun _ => none) (fun f M' => M = M' ∧ f 1 = .bp H.length 0 ∧ f 4 = I i ∧ f 5 = Int.sl x.uses ∧ f 6 = Int.sl x.defs ∧ f 3 = hrow h (riseL pr2).length ∧ f 8 = I 0) (by kernel_rfl) ?_ ?_
  · simp -dsimp [g1, g3, g4, g5, g6]
  clear g g1 g3 g4 g5 g6
  rintro g _ ⟨rfl, g1, g4, g5, g6, g3, g8⟩
  refine awp_all (fun _ => false) (fun _ => none) (by kernel_rfl) ?_
  simp -dsimp [g1, g4, g5, g6, g3, g8]
  refine loop_rule (hn := fun _ => false) (od := fun _ => none) (fun (n : Nat) f M => f 1 = .bp H.length 0 ∧ f 4 = I i ∧ f 5 = Int.sl x.uses ∧ f 6 = Int.sl x.defs ∧ f 8 = I n ∧ n ≤ (x.defs).length ∧ ∃ h, f 3 = hrow h (riseL (pr2 ++ (x.defs).take n)).length ∧ OwnI B M h (riseL (pr2 ++ (x.defs).take n))) (fun n => (x.defs).length - n) (by kernel_rfl) 0 (by refine ⟨by simp [g1], by simp [g4], by simp [g5], by simp [g6], by simp [g8], by omega, h, by simp [g3], by simpa using ow⟩) ?_
  clear g1 g4 g5 g6 g3 g8 ow r1 h M g
  rintro n g M ⟨g1, g4, g5, g6, g8, hn, h, g3, ow⟩
  have r1 := ow.old hb
  simp -dsimp [g1, g4, g5, g6, g8]
  refine condVW_introD (fun hln => ?_) (fun hln => ?_)
  · have hln' : n < (x.defs).length := by omega
    have hxn := List.getElem?_eq_getElem hln'
    have hwm : (x.defs)[n] ∈ x.defs := List.getElem_mem hln'
    have htn : (x.defs).take (n + 1) = (x.defs).take n ++ [(x.defs)[n]] := by rw [List.take_add_one]; simp [hln']
    obtain ⟨w, hw⟩ : ∃ w, w = (x.defs)[n] := ⟨_, rfl⟩
    rw [← hw] at hxn htn hwm
    clear hw
    have hput : riseL (pr2 ++ (x.defs).take (n + 1)) = putI (w) (riseL (pr2 ++ (x.defs).take n)) := by rw [htn, ← List.append_assoc, riseL_snoc]
    have bn := bl2 n
    have cp := rput_ok (riseL (pr2 ++ (x.defs).take n)) (w) h M ow.at' (by omega)
    rw [← hput] at cp
    simp -dsimp [g1, g4, g5, g6, g3, g8, hxn]
    refine acallsW_of cp ?_
    rintro e M' ⟨h', rfl, r, s⟩
    simp -dsimp [g1, g4, g5, g6, g3, g8, hxn]
    exact ⟨n + 1, by omega, wrapS (by omega), by omega, h', rfl, ow.step r s⟩
  · simp -dsimp [g1, g4, g5, g6, g3, g8]
    rw [List.take_of_length_le (by first | omega | (simp; omega))] at ow ⊢
    exact ⟨h, rfl, ow⟩
end Go.Proofs
namespace Go.Proofs
open Go.Mu
structure RBeg (l : Linear) (regs : List Int) : Prop where
  len : (regs.length : Int) = l.vars
  rng : ∀ n ∈ regs, -1 ≤ n ∧ n < 11
  has : ∀ p ∈ l.params, 0 ≤ rg regs p
  once : ∀ (i k : Nat) (p q : Int), l.params[i]? = some p → l.params[k]? = some q → k ≠ i → rg regs q ≠ rg regs p
  live : ∀ v ∈ liveL l 0, v ∉ l.params → 0 ≤ rg regs v ∧ ∀ p ∈ l.params, rg regs p ≠ rg regs v
structure RRight (l : Linear) (regs : List Int) (i : Nat) (x : Line) : Prop where
  uses : ∀ v ∈ x.uses, 0 ≤ rg regs v
  defs : ∀ d ∈ x.defs, 0 ≤ rg regs d ∧ ∀ b ∈ behL l i, b ≠ d → rg regs b = rg regs d → x.ins.kind = 2 ∧ x.ins.a = b
theorem cntL_len {l : Linear} (ho : LinOk l) : (cntL l).length ≤ 16384 := by
  have := rising_len (a := 0) (b := l.vars) (l := cntL l) (riseL_rise _) fun x hx => by
    unfold cntL at hx
    rw [riseL_mem] at hx
    exact cnt_in ho hx
  have := ho.vars
  omega
end Go.Proofs
namespace Go.Proofs
open Go.Mu
noncomputable def behRaw (l : Linear) (i : Nat) (x : Line) : List Int := if x.kind = 5 then l.rets else (nxt l i).flatMap fun k => if k.toNat = l.code.length then l.rets else liveL l k.toNat
theorem behRaw_mem {l : Linear} (ho : LinOk l) {i : Nat} {x : Line} (hx : l.code[i]? = some x) {v : Int} : v ∈ behRaw l i x ↔ v ∈ behL l i := by
  rw [behL_mem ho]
  unfold behRaw
  have hend : v ∈ l.rets ↔ LiveAt l l.code.length v := live_end.symm
  by_cases h5 : x.kind = 5
  · rw [if_pos h5]
    have : nxt l i = [(l.code.length : Int)] := by unfold nxt; rw [hx]; simp [h5]
    rw [this, hend]; simp
  · rw [if_neg h5, List.mem_flatMap]
    constructor
    · rintro ⟨k, hk, hv⟩
      refine ⟨k, hk, ?_⟩
      split at hv
      · rename_i e; rw [e]; exact hend.1 hv
      · exact (live_mem ho).1 hv
    · rintro ⟨k, hk, hv⟩
      refine ⟨k, hk, ?_⟩
      split
      · rename_i e; rw [e] at hv; exact hend.2 hv
      · exact (live_mem ho).2 hv
theorem behRaw_len (l : Linear) (hs : l.Sm) (ho : LinOk l) (i : Nat) (x : Line) (q : Nat) : (((nxt l i).take q).flatMap fun k => if k.toNat = l.code.length then l.rets else liveL l k.toNat).length ≤ 2^38 := by
  have h1 : ∀ (s : List Int), (s.flatMap fun k => if k.toNat = l.code.length then l.rets else liveL l k.toNat).length ≤ s.length * 2^36 := by
    intro s
    induction s with
    | nil => simp
    | cons a s ih =>
      have h2 : (if a.toNat = l.code.length then l.rets else liveL l a.toNat).length ≤ 2^36 := by
        split
        · exact hs.rets
        · have := liveL_len l a.toNat
          have := ho.vars
          omega
      rw [List.flatMap_cons, List.length_append, List.length_cons, Nat.succ_mul]
      omega
  have h3 := h1 ((nxt l i).take q)
  have h4 := nxt_len l i
  have h5 : ((nxt l i).take q).length ≤ 2 := by simp; omega
  have : ((nxt l i).take q).length * 2^36 ≤ 2 * 2^36 := Nat.mul_le_mul_right _ h5
  omega
end Go.Proofs
namespace Go.Proofs
open Go.Mu
end Go.Proofs
namespace Go.Proofs
open Go.Mu
end Go.Proofs
namespace Go.Proofs
open Go.Mu
end Go.Proofs
namespace Go.Proofs
open Go.Mu
end Go.Proofs
namespace Go.Proofs
open Go.Mu
structure InsIn (vars : Int) (x : Ins) : Prop where
  kd : x.kind = 1 ∨ x.kind = 2 ∨ x.kind = 3 ∨ x.kind = 4 ∨ x.kind = 5
  d : x.kind ≠ 5 → 0 ≤ x.d ∧ x.d < vars
  a : x.kind = 2 ∨ x.kind = 3 → 0 ≤ x.a ∧ x.a < vars
  a' : x.kind = 4 ∨ x.kind = 5 → x.a = -1 ∨ (0 ≤ x.a ∧ x.a < vars)
  b : x.kind = 3 → 6 ≤ x.op → 0 ≤ x.b ∧ x.b < vars
  b' : x.kind = 5 → 0 ≤ x.b ∧ x.b < vars
  c : x.kind = 3 → x.op = 21 → 0 ≤ x.c ∧ x.c < vars
  op : x.kind = 3 → 4 ≤ x.op ∧ x.op ≤ 21
end Go.Proofs
namespace Go.Proofs
open Go.Mu
end Go.Proofs
