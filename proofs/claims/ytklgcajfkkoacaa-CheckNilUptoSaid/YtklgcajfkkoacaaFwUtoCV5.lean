/- A region whose order of evaluation is drawn, in which two operations that change something may come in either order. -/
import Derived.Test.YtklgcajfkkoacaaFwQtoFwT
import Derived.Test.YtklgcajfkkoacaaFS5toCW6
set_option linter.unusedVariables false
set_option linter.unusedSimpArgs false
set_option maxHeartbeats 4000000
set_option maxRecDepth 100000
namespace Go.Mu
section
variable {P : Program} {n : Nat} {pu : Nat → Bool} {ops : Array Oper} {Q : AQ}
structure Fork where
  pre : List Nat
  (i j : Nat)
  (li lj : List Nat)
  (pi pj : OPlan)
variable {hn : Nat → Bool}
end
end Go.Mu
namespace Go.Mu
open Go.RowKit (Below)
section
variable {P : Program}
end
end Go.Mu
namespace Go.Mu
open Go.RowKit (Below)
section
variable {P : Program} {n : Nat} {c : Code} {Q : AQ}
end
end Go.Mu
namespace Go.Mu
open Go.RowKit (Below)
section
variable {P : Program} {n : Nat} {c : Code} {Q : AQ}
end
end Go.Mu
namespace Go.Mu
inductive FT where
  | lin (p : OPlan)
  | fork (pre : List Nat) (ats : FT)
  | alt (i : Nat) (late : List Nat) (t more : FT)
  | none
section
variable {P : Program} {n : Nat} {pu : Nat → Bool} {ops : Array Oper} {Q : AQ}
variable {hn : Nat → Bool}
end
end Go.Mu
namespace Go.Mu
open Go.RowKit (Below)
section
variable {P : Program} {n : Nat} {Q : AQ}
def M2 (H : List Blk) (c : Nat) (X o t : Blk) (L : List Blk) : List Blk := H.set c X ++ o :: t :: L
variable {H : List Blk} {c : Nat}
end
end Go.Mu
namespace Go.Mu
def hrow (h : Option Nat) (n : Nat) : AV := match h with | none => .v (.slice none 0 0) | some k => .hs k 0 n n
def cutS (h : Option Nat) (m n : Nat) : AV := match h with | none => .v (.slice none 0 0) | some k => .hs k 0 m n
theorem cutS_all (h : Option Nat) (n : Nat) : cutS h n n = hrow h n := by cases h <;> rfl
@[simp] theorem avCells_hrow (h : Option Nat) (n : Nat) : avCells (hrow h n) = some [hrow h n] := by cases h <;> rfl
@[simp] theorem one_hrow (h : Option Nat) (n : Nat) : (hrow h n).one = true := by cases h <;> rfl
structure RowAt' (t : TypeId) (sz : Nat) (M : List Blk) (h : Option Nat) (es : List (List AV)) : Prop where
  row : ∀ k, h = some k → M[k]? = some (.row t sz es)
  nil : h = none → es = []
structure Own (t : TypeId) (sz : Nat) (B M : List Blk) (h : Option Nat) (es : List (List AV)) : Prop where
  pre : ∃ L, M = B ++ L
  row : ∀ k, h = some k → M[k]? = some (.row t sz es)
  nil : h = none → es = []
  new : ∀ k, h = some k → B.length ≤ k
variable {t sz n : Nat} {B M : List Blk} {h : Option Nat} {es : List (List AV)}
theorem Own.nil0 (t sz : Nat) (B L : List Blk) : Own t sz B (B ++ L) none [] := ⟨⟨L, rfl⟩, fun _ h => (by cases h), fun _ => rfl, fun _ h => (by cases h)⟩
theorem Own.nil1 (t sz : Nat) (B : List Blk) : Own t sz B B none [] := ⟨⟨[], by simp⟩, fun _ h => (by cases h), fun _ => rfl, fun _ h => (by cases h)⟩
theorem Own.app (o : Own t sz B M h es) (L : List Blk) : Own t sz B (M ++ L) h es := by
  obtain ⟨⟨L0, rfl⟩, r, nl, nw⟩ := o
  exact ⟨⟨L0 ++ L, by simp⟩, fun k hk => by have := r k hk; rw [List.getElem?_append_left (List.getElem?_eq_some_iff.1 this).1]; exact this, nl, nw⟩
theorem Own.old (o : Own t sz B M h es) {i : Nat} {b : Blk} (hb : B[i]? = some b) : M[i]? = some b := by
  obtain ⟨L, rfl⟩ := o.pre
  rw [List.getElem?_append_left (List.getElem?_eq_some_iff.1 hb).1]; exact hb
theorem Own.less {B0 B1 : List Blk} (o : Own t sz (B0 ++ B1) M h es) : Own t sz B0 M h es := by
  obtain ⟨⟨L, rfl⟩, r, nl, nw⟩ := o
  exact ⟨⟨B1 ++ L, by simp⟩, r, nl, fun k hk => by have := nw k hk; simp at this; omega⟩
structure Stp (M M' : List Blk) (h h' : Option Nat) : Prop where
  len : M.length ≤ M'.length
  get : ∀ i, i < M.length → h ≠ some i → M'[i]? = M[i]?
  new : h' = h ∨ ∃ i, h' = .some i ∧ M.length ≤ i
theorem Stp.refl (M : List Blk) (h : Option Nat) : Stp M M h h := ⟨Nat.le_refl _, fun _ _ _ => rfl, .inl rfl⟩
theorem Stp.old {M M' : List Blk} {h h' : Option Nat} (a : Stp M M' h h') {i : Nat} {b : Blk} (hi : M[i]? = .some b) (hn : h ≠ .some i) : M'[i]? = .some b := by rw [a.get i (List.getElem?_eq_some_iff.1 hi).1 hn]; exact hi
theorem ext_pre {B M : List Blk} (hl : B.length ≤ M.length) (hg : ∀ i, i < B.length → M[i]? = B[i]?) : ∃ L, M = B ++ L := by
  refine ⟨M.drop B.length, ?_⟩
  apply List.ext_getElem?
  intro i
  by_cases hi : i < B.length
  · rw [List.getElem?_append_left hi]; exact hg i hi
  · rw [List.getElem?_append_right (by omega), List.getElem?_drop]; congr 1; omega
theorem Own.step {M' : List Blk} {h' : Option Nat} {es' : List (List AV)} (o : Own t sz B M h es) (r : RowAt' t sz M' h' es') (s : Stp M M' h h') : Own t sz B M' h' es' := by
  obtain ⟨⟨L, rfl⟩, _, _, nw⟩ := o
  refine ⟨ext_pre (by have := s.len; simp at this; omega) (fun i hi => ?_), r.row, r.nil, fun k hk => ?_⟩
  · rw [s.get i (by simp; omega) (fun e => by have := nw i e; omega), List.getElem?_append_left hi]
  · rcases s.new with e | ⟨i, e, hi⟩
    · exact nw k (e ▸ hk)
    · rw [e] at hk; cases hk; simp at hi; omega
theorem Own.at' (o : Own t sz B M h es) : RowAt' t sz M h es := ⟨o.row, o.nil⟩
theorem app_at {ys : List (List AV)} {sl : TypeId × Nat × List Value × Nat} {K : AV → List Blk → Prop} {w : Wit K} (hr : RowAt' t sz M h es) (hn : n = es.length) (h1 : sl.1 = t) (h2 : sl.2.1 = sz) (hb : (es.length + ys.length) * sl.2.2.2 ≤ 140737488355328) (h63 : es.length + ys.length ≤ 9223372036854775807)
    (k : ∀ h' M', RowAt' t sz M' h' (es ++ ys) → Stp M M' h h' → K (hrow h' (es ++ ys).length) M') : appendVW M sl (hrow h n) ys K w := by
  subst hn
  obtain ⟨s1, s2, s3, s4⟩ := sl
  simp only at h1 h2 hb
  subst h1 h2
  cases h with
  | none =>
    have := hr.nil rfl
    subst this
    simp only [List.length_nil, Nat.zero_add] at hb
    simp only [hrow]
    refine appendVW_nil (by simpa using hb) (by simp at h63 ⊢; omega) (fun hy => ?_) (fun hy => ?_)
    · subst hy
      exact k none M ⟨fun _ h => (by cases h), fun _ => rfl⟩ (.refl _ _)
    · have := k (.some M.length) (M ++ [.row s1 s2 ys]) ⟨fun k hk => (by cases hk; simp), fun h => (by cases h)⟩ ⟨by simp, fun i hi _ => List.getElem?_append_left hi, .inr ⟨_, rfl, Nat.le_refl _⟩⟩
      simpa [hrow] using this
  | some i =>
    have q3 := hr.row i rfl
    have hil := (List.getElem?_eq_some_iff.1 q3).1
    simp only [hrow]
    refine appendVW_hs (es := es) q3 rfl rfl (by simpa using hb) h63 ?_
    have := k (.some i) (M.set i (.row s1 s2 (es ++ ys))) ⟨fun k hk => (by cases hk; simp [hil]), fun h => (by cases h)⟩ ⟨by simp, fun j hj hne => by rw [List.getElem?_set_ne (fun e => hne (by rw [e]))], .inl rfl⟩
    simpa [hrow] using this
theorem app_own {ys : List (List AV)} {sl : TypeId × Nat × List Value × Nat} {K : AV → List Blk → Prop} {w : Wit K} (o : Own t sz B M h es) (hn : n = es.length) (h1 : sl.1 = t) (h2 : sl.2.1 = sz) (hb : (es.length + ys.length) * sl.2.2.2 ≤ 140737488355328) (h63 : es.length + ys.length ≤ 9223372036854775807)
    (k : ∀ h' M', Own t sz B M' h' (es ++ ys) → Stp M M' h h' → K (hrow h' (es ++ ys).length) M') : appendVW M sl (hrow h n) ys K w :=
  app_at o.at' hn h1 h2 hb h63 fun h' M' r s => k h' M' (o.step r s) s
theorem tidy_giveC {H L : List Blk} {R : AE → List Blk → Prop} {f : AV → AV} {m : Nat} (hu : underH H.length H = true) (o : Own t sz H (H ++ L) h es) (hz : es.flatten.all AV.frzB = true)
    (hf : ∀ k, h = .some k → (f (.hs k 0 m es.length)).frz k sz es = f (.vs sz (es.take m)))
    (k : ∀ x L', Gv sz (es.take m) x → L'.length = L.length → (∀ i b, h ≠ .some i → (H ++ L)[i]? = .some b → b.under H.length = true → (H ++ L')[i]? = .some b) → Tidy H R (.ret (f x)) (H ++ L')) : Tidy H R (.ret (f (cutS h m es.length))) (H ++ L) := by
  cases h with
  | none =>
    have := o.nil rfl
    subst this
    refine k _ L (.inl ⟨rfl, by simp⟩) rfl fun i b _ hb _ => hb
  | some j =>
    obtain ⟨q, rfl⟩ : ∃ q, j = H.length + q := ⟨j - H.length, by have := o.new j rfl; omega⟩
    have hj := o.row _ rfl
    rw [List.getElem?_append_right (by omega), Nat.add_sub_cancel_left] at hj
    refine tidy_give hu q sz t es hj hz ?_
    show Tidy H R (.ret ((f (.hs (H.length + q) 0 m es.length)).frz (H.length + q) sz es)) _
    rw [hf _ rfl]
    refine k _ _ (.inr rfl) (by simp) fun i b hi hb hbu => ?_
    by_cases hil : i < H.length
    · rw [List.getElem?_append_left hil] at hb ⊢; exact hb
    · rw [List.getElem?_append_right (by omega)] at hb ⊢
      rw [List.getElem?_set_ne (fun e => hi (by rw [show i = H.length + q by omega])), List.getElem?_map, hb]
      simp only [Option.map_some, frzB_id (Nat.le_add_right _ _) b hbu]
theorem tidy_row1 {H : List Blk} {R : AE → List Blk → Prop} {m n : Nat} (hu : underH H.length H = true) (o : Own t sz H M h es) (hz : es.flatten.all AV.frzB = true) (hn : n = es.length) (hR : R (.ret (.vs sz (es.take m))) H) : Tidy H (WeakE R) (.ret (cutS h m n)) M := by
  subst hn
  obtain ⟨L, rfl⟩ := o.pre
  refine tidy_giveC (f := fun x => x) hu o hz (fun k hk => by simp [AV.frz]) fun x L' hx _ _ => ?_
  exact tidy_same (hx.under _) ⟨_, hx.weak, hR⟩
theorem tidy_rowA {H : List Blk} {R : AE → List Blk → Prop} {n : Nat} (hu : underH H.length H = true) (o : Own t sz H M h es) (hz : es.flatten.all AV.frzB = true) (hn : n = es.length) (hR : R (.ret (.vs sz es)) H) : Tidy H (WeakE R) (.ret (hrow h n)) M := by
  rw [← cutS_all]
  exact tidy_row1 hu o hz hn (by subst hn; rw [List.take_of_length_le (by omega)]; exact hR)
theorem tidy_rowAV {H : List Blk} {R : AE → List Blk → Prop} {n : Nat} {y : Value} (hu : underH H.length H = true) (o : Own t sz H M h es) (hz : es.flatten.all AV.frzB = true) (hn : n = es.length) (hR : R (.ret (.tup [.vs sz es, .v y])) H) : Tidy H (WeakE R) (.ret (.tup [hrow h n, .v y])) M := by
  subst hn
  obtain ⟨L, rfl⟩ := o.pre
  have := tidy_giveC (R := WeakE R) (f := fun x => .tup [x, .v y]) (m := es.length) hu o hz (fun k hk => by simp [AV.frz, frzL]) fun x L' hx _ _ => ?_
  · rw [cutS_all] at this; exact this
  · rw [List.take_of_length_le (by omega)] at hx
    exact tidy_same (by simp [AV.under, underL, hx.under]) ⟨_, .tupL (.cons hx.weak (.cons (.refl _) .nil)), hR⟩
theorem tidy_row2 {H : List Blk} {R : AE → List Blk → Prop} {h2 : Option Nat} {es2 : List (List AV)} {t2 sz2 m1 m2 n1 n2 : Nat} (hu : underH H.length H = true) (o : Own t sz H M h es) (o2 : Own t2 sz2 H M h2 es2) (hz : es.flatten.all AV.frzB = true) (hz2 : es2.flatten.all AV.frzB = true)
    (hne : ∀ k, h = .some k → h2 ≠ .some k) (hn1 : n1 = es.length) (hn2 : n2 = es2.length) (hR : R (.ret (.tup [.vs sz (es.take m1), .vs sz2 (es2.take m2)])) H) : Tidy H (WeakE R) (.ret (.tup [cutS h m1 n1, cutS h2 m2 n2])) M := by
  subst hn1 hn2
  obtain ⟨L, rfl⟩ := o.pre
  refine tidy_giveC (f := fun x => .tup [x, cutS h2 m2 es2.length]) hu o hz (fun k hk => ?_) fun x L' hx hl hg => ?_
  · have : (cutS h2 m2 es2.length).frz k sz es = cutS h2 m2 es2.length := by
      cases h2 with
      | none => rfl
      | some j => simp only [cutS, AV.frz]; rw [if_neg]; rintro ⟨e, _⟩; exact hne k hk (by rw [e])
    simp only [AV.frz, frzL, this]; simp
  · have o2' : Own t2 sz2 H (H ++ L') h2 es2 := ⟨⟨L', rfl⟩, fun k hk => hg k _ (fun e => hne k e hk) (o2.row k hk) (by
        have hz' := hz2
        rw [List.all_eq_true] at hz'
        simp only [Blk.under, List.all_eq_true]
        intro e he
        exact underL_frzB _ e (fun c hc => hz' c (List.mem_flatten.2 ⟨e, he, hc⟩))), o2.nil, o2.new⟩
    refine tidy_giveC (f := fun y => .tup [x, y]) hu o2' hz2 (fun k hk => ?_) fun y L2 hy _ _ => ?_
    · simp [AV.frz, frzL, hx.frz]
    · exact tidy_same (by simp [AV.under, underL, hx.under, hy.under]) ⟨_, .tupL (.cons hx.weak (.cons hy.weak .nil)), hR⟩
end Go.Mu
namespace Go.Mu
theorem awp_scope_r {P : Program} {n : Nat} {c : Code} {rs : List ResultVar} {R : AE → List Blk → Prop} {f : Fr} {H : List Blk} {ds : List ADef} (h : AWP P n c (retQ P rs R) f H ds) : AWP P n (.scope c) (retQ P rs R) f H ds := by
  refine awp_scope ?_
  refine Eq.mpr (congrArg (fun Q => AWP P n c Q f H ds) (a₂ := retQ P rs R) ?_) h
  funext x f H ds
  cases x <;> rfl
end Go.Mu
namespace Go.Mu
theorem astore_one {M : List Blk} {k t sz i n : Nat} {es : List (List AV)} {c x : AV} (hr : M[k]? = some (.row t sz es)) (hn : es.length = n) (hi : es[i]? = some [c]) : astore M (.rp k n i 0) [x] = some (M.set k (.row t sz (es.set i [x]))) := by
  subst hn
  simp [astore, hr, hi, spl]
end Go.Mu
namespace Go.Mu
end Go.Mu
namespace Go.Mu
end Go.Mu
namespace Go.Proofs
open Go.Mu
abbrev OwnI (B M : List Blk) (h : Option Nat) (l : List Int) : Prop := Own 3 1 B M h (l.map fun n => [I n])
abbrev AtI (M : List Blk) (h : Option Nat) (l : List Int) : Prop := RowAt' 3 1 M h (l.map fun n => [I n])
theorem map_len (l : List Int) : (l.map fun n => [I n]).length = l.length := by simp
theorem compRow_take (l : List Int) : (compRow l).take (Lib.compact l).length = Lib.compact l := by unfold compRow; simp
theorem isort_h (l : List Int) (hl : l.length ≤ 2^40) (h : Option Nat) (M : List Blk) (hr : AtI M h l) : ACalls Try.prog 47 [hrow h l.length] M (fun e M' => e = .ret (.tup []) ∧ AtI M' h (sortI l) ∧ Stp M M' h h) := by
  cases h with
  | none =>
    have : l = [] := List.map_eq_nil_iff.1 (hr.nil rfl)
    subst this
    refine (isorts0_ok M).mono ?_
    rintro e M' ⟨rfl, rfl⟩
    exact ⟨rfl, ⟨fun _ h => (by cases h), fun _ => by unfold sortI; simp⟩, .refl _ _⟩
  | some k =>
    have q := hr.row k rfl
    have hkl := lt_of_get q
    refine (isorts_ok l hl k M q).mono ?_
    rintro e M' ⟨rfl, rfl⟩
    exact ⟨rfl, ⟨fun j hj => by cases hj; simp [hkl], fun h => by cases h⟩, ⟨by simp, fun j hj hne => by rw [List.getElem?_set_ne (fun e => hne (by rw [e]))], .inl rfl⟩⟩
theorem icompact_h (l : List Int) (hl : l.length ≤ 2^40) (h : Option Nat) (M : List Blk) (hr : AtI M h l) : ACalls Try.prog 48 [hrow h l.length] M (fun e M' => e = .ret (cutS h (Lib.compact l).length l.length) ∧ AtI M' h (compRow l) ∧ Stp M M' h h) := by
  cases h with
  | none =>
    have : l = [] := List.map_eq_nil_iff.1 (hr.nil rfl)
    subst this
    refine (icompact0_ok M).mono ?_
    rintro e M' ⟨rfl, rfl⟩
    exact ⟨rfl, ⟨fun _ h => (by cases h), fun _ => by simp [compRow, Lib.compact, Lib.compactUpTo]⟩, .refl _ _⟩
  | some k =>
    have q := hr.row k rfl
    have hkl := lt_of_get q
    refine (icompact_ok l hl k M q).mono ?_
    rintro e M' ⟨rfl, rfl⟩
    exact ⟨rfl, ⟨fun j hj => by cases hj; simp [hkl], fun h => by cases h⟩, ⟨by simp, fun j hj hne => by rw [List.getElem?_set_ne (fun e => hne (by rw [e]))], .inl rfl⟩⟩
structure Two (B M : List Blk) (h hd : Option Nat) (u d : List Int) : Prop where
  own : OwnI B M h u
  dwn : OwnI B M hd d
  ne : ∀ k, h = some k → hd ≠ some k
theorem Two.step {B M M' : List Blk} {h hd : Option Nat} {u d u' : List Int} (t : Two B M h hd u d) (r : AtI M' h u') (s : Stp M M' h h) : Two B M' h hd u' d := by
  have o := t.own.step r s
  refine ⟨o, ⟨o.pre, fun k hk => s.old (t.dwn.row k hk) (fun e => t.ne k e hk), t.dwn.nil, t.dwn.new⟩, t.ne⟩
def UsesI (x : Line) (B : List Blk) (f : Fr) (M : List Blk) : Prop := ∃ h hd, f 4 = hrow h x.raw.length ∧ f 3 = hrow hd x.defs.length ∧ Two B M h hd x.raw x.defs
theorem two_nn {B L : List Blk} : Two B (B ++ L) none none [] [] := ⟨.nil0 _ _ _ _, .nil0 _ _ _ _, fun _ h => by cases h⟩
theorem two_sn {B : List Blk} {u : List Int} : Two B (B ++ [.row 3 1 (u.map fun n => [I n])]) (some B.length) none u [] :=
  ⟨⟨⟨_, rfl⟩, fun k hk => by cases hk; simp, fun h => by (cases h), fun k hk => by cases hk; exact Nat.le_refl _⟩, .nil0 _ _ _ _, fun _ _ h => by cases h⟩
theorem two_ns {B : List Blk} {d : List Int} : Two B (B ++ [.row 3 1 (d.map fun n => [I n])]) none (some B.length) [] d :=
  ⟨.nil0 _ _ _ _, ⟨⟨_, rfl⟩, fun k hk => by cases hk; simp, fun h => by (cases h), fun k hk => by cases hk; exact Nat.le_refl _⟩, fun _ h => by cases h⟩
theorem two_ss {B : List Blk} {u d : List Int} : Two B (B ++ [.row 3 1 (d.map fun n => [I n]), .row 3 1 (u.map fun n => [I n])]) (some (B.length + 1)) (some B.length) u d :=
  ⟨⟨⟨_, rfl⟩, fun k hk => by cases hk; simp, fun h => by (cases h), fun k hk => by cases hk; omega⟩, ⟨⟨_, rfl⟩, fun k hk => by cases hk; simp, fun h => by (cases h), fun k hk => by cases hk; exact Nat.le_refl _⟩, fun k h1 h2 => by cases h1; simp at h2⟩
theorem raw_len (x : Line) : x.raw.length ≤ 3 := by
  unfold Line.raw
  repeat' split
  all_goals simp
theorem defs_len (x : Line) : x.defs.length ≤ 1 := by
  unfold Line.defs
  split <;> simp
theorem app_n1 {H : List Blk} {sl : TypeId × Nat × List Value × Nat} {y : List AV} {K : AV → List Blk → Prop} {w : Wit K} (hb : sl.2.2.2 ≤ 140737488355328) (h : K (.hs H.length 0 1 1) (H ++ [.row sl.1 sl.2.1 [y]])) : appendVW H sl nilS [y] K w :=
  appendVW_nil (by simpa using hb) (by simp) (fun hy => by cases hy) (fun _ => h)
theorem app_h0 {H : List Blk} {sl : TypeId × Nat × List Value × Nat} {t sz n : Nat} {es : List (List AV)} {y : List AV} {K : AV → List Blk → Prop} {w : Wit K} (h1 : t = sl.1) (h2 : sz = sl.2.1) (hn : n = es.length) (hb : (n + 1) * sl.2.2.2 ≤ 140737488355328) (h63 : n + 1 ≤ 9223372036854775807)
    (h : K (.hs H.length 0 (n + 1) (n + 1)) (H ++ [.row t sz (es ++ [y])])) : appendVW (H ++ [.row t sz es]) sl (.hs H.length 0 n n) [y] K w := by
  subst h1 h2 hn
  refine appendVW_hs (es := es) (by simp) rfl rfl (by simpa using hb) (by simpa using h63) ?_
  simpa using h
theorem app_h1 {H : List Blk} {r : Blk} {sl : TypeId × Nat × List Value × Nat} {t sz n : Nat} {es : List (List AV)} {y : List AV} {K : AV → List Blk → Prop} {w : Wit K} (h1 : t = sl.1) (h2 : sz = sl.2.1) (hn : n = es.length) (hb : (n + 1) * sl.2.2.2 ≤ 140737488355328) (h63 : n + 1 ≤ 9223372036854775807)
    (h : K (.hs (H.length + 1) 0 (n + 1) (n + 1)) (H ++ [r, .row t sz (es ++ [y])])) : appendVW (H ++ [r, .row t sz es]) sl (.hs (H.length + 1) 0 n n) [y] K w := by
  subst h1 h2 hn
  refine appendVW_hs (es := es) (by simp) rfl rfl (by simpa using hb) (by simpa using h63) ?_
  simpa using h
theorem usesI_nn {x : Line} {B M : List Blk} {f : Fr} (hM : M = B) (h4 : f 4 = nilS) (h3 : f 3 = nilS) (hr : x.raw = []) (hd : x.defs = []) : UsesI x B f M := by
  subst hM
  exact ⟨none, none, by rw [h4, hr]; rfl, by rw [h3, hd]; rfl, by rw [hr, hd]; have := two_nn (B := M) (L := []); rwa [List.append_nil] at this⟩
theorem usesI_sn {x : Line} {B M : List Blk} {f : Fr} (hM : M = B ++ [.row 3 1 (x.raw.map fun n => [I n])]) (h4 : f 4 = .hs B.length 0 x.raw.length x.raw.length) (h3 : f 3 = nilS) (hd : x.defs = []) : UsesI x B f M := by
  subst hM
  exact ⟨some B.length, none, h4, by rw [h3, hd]; rfl, by rw [hd]; exact two_sn⟩
theorem usesI_ns {x : Line} {B M : List Blk} {f : Fr} (hM : M = B ++ [.row 3 1 (x.defs.map fun n => [I n])]) (h4 : f 4 = nilS) (h3 : f 3 = .hs B.length 0 x.defs.length x.defs.length) (hr : x.raw = []) : UsesI x B f M := by
  subst hM
  exact ⟨none, some B.length, by rw [h4, hr]; rfl, h3, by rw [hr]; exact two_ns⟩
theorem usesI_ss {x : Line} {B M : List Blk} {f : Fr} (hM : M = B ++ [.row 3 1 (x.defs.map fun n => [I n]), .row 3 1 (x.raw.map fun n => [I n])]) (h4 : f 4 = .hs (B.length + 1) 0 x.raw.length x.raw.length) (h3 : f 3 = .hs B.length 0 x.defs.length x.defs.length) : UsesI x B f M := by
  subst hM
  exact ⟨some (B.length + 1), some B.length, h4, h3, two_ss⟩
def usHn (d : Nat) : Bool := d == 13 || d == 25 || d == 42 || d == 48 || d == 64 || d == 74 || d == 80 || d == 90
def UsesR (x : Line) (H : List Blk) (e : AE) (M : List Blk) : Prop := ∃ h hd es m, e = .ret (.tup [cutS h m es.length, hrow hd x.defs.length]) ∧ Two H M h hd es x.defs ∧ m ≤ es.length ∧ es.take m = x.uses
theorem uses_own (x : Line) (H : List Blk) : ACalls Try.prog 46 [.agg x.cells] H (UsesR x H) := by
  refine acalls_of_awp Try.func46 rfl (by kernel_rfl) ?_
  obtain ⟨B, hB⟩ : ∃ B, B = H ++ [.box 41 x.cells] := ⟨_, rfl⟩
  have hBl : B.length = H.length + 1 := by rw [hB]; simp
  have hb : ∀ L, (B ++ L)[H.length]? = some (.box 41 x.cells) := fun L => by rw [hB]; simp
  refine awp_cut (fun _ => false) (fun _ => none) (fun f H' => B = H' ∧ f 1 = .bp H.length 0 ∧ f 3 = nilS) (by kernel_rfl) ?_ ?_
  · simp -dsimp [hB]
  rintro g _ ⟨rfl, g1, g3⟩
  refine awp_cut (fun _ => false) (fun _ => none) (fun f H' => B ++ [] = H' ∧ f 1 = .bp H.length 0 ∧ f 3 = nilS ∧ f 4 = nilS) (by kernel_rfl) ?_ ?_
  · simp -dsimp [g1, g3]
  clear g g1 g3
  rintro g _ ⟨rfl, g1, g3, g4⟩
  simp only [Line.cells] at hb
  have hb0 := hb []
  rw [List.append_nil] at hb0
  replace hB := Hid.mk hB
  replace hBl := Hid.mk hBl
  refine awp_cut usHn (fun _ => none) (UsesI x B) (by kernel_rfl) ?_ ?_
  · simp -dsimp [g1, g3, g4, hb, hb0, usHn]
    repeat' ((with_reducible first | refine And.intro ?_ ?_ | refine guardVW_introTD (fun _ => ?_) (fun _ => ?_) | refine guardVW_introFD (fun _ => ?_) (fun _ => ?_) | refine condVW_introD (fun _ => ?_) (fun _ => ?_) | refine guardVW_introTE (fun _ => ?_) (fun _ _ _ => ?_) | refine guardVW_introFE (fun _ => ?_) (fun _ _ _ => ?_) | refine condVW_introE (fun _ => ?_) (fun _ _ _ => ?_) | refine guardVW_introTNE (fun _ _ _ => ?_) (fun _ => ?_) | refine guardVW_introFNE (fun _ _ _ => ?_) (fun _ => ?_) | refine condVW_introNE (fun _ _ _ => ?_) (fun _ => ?_) | refine guardVW_introTB (fun _ => ?_) (fun _ => ?_) | refine guardVW_introFB (fun _ => ?_) (fun _ => ?_) | refine condVW_introB (fun _ => ?_) (fun _ => ?_) | refine guardVW_introT (fun _ => ?_) (fun _ => ?_) | refine guardVW_introF (fun _ => ?_) (fun _ => ?_) | refine condVW_intro (fun _ => ?_) (fun _ => ?_) | (refine app_n1 (by simp) ?_) | (refine app_h0 rfl rfl rfl (by simp) (by simp) ?_) | (refine app_h1 rfl rfl rfl (by simp) (by simp) ?_)) <;> simp -dsimp [*, usHn])
    all_goals clear hb hb0 hB hBl
    all_goals first
      | (refine usesI_nn ?_ ?_ ?_ ?_ ?_ <;> (simp [Line.raw, Line.defs, *]; done))
      | (refine usesI_sn ?_ ?_ ?_ ?_ <;> (simp [Line.raw, Line.defs, *]; done))
      | (refine usesI_ns ?_ ?_ ?_ ?_ <;> (simp [Line.raw, Line.defs, *]; done))
      | (refine usesI_ss ?_ ?_ ?_ <;> (simp [Line.raw, Line.defs, *]; done))
  clear g g1 g3 g4
  rintro g M ⟨h, hd, g4, g3, tw⟩
  have hs := isort_h x.raw (by have := raw_len x; omega) h M tw.own.at'
  refine awp_all usHn (fun _ => none) (by kernel_rfl) ?_
  simp -dsimp [g3, g4]
  refine acallsW_of hs ?_
  rintro e M1 ⟨rfl, r1, s1⟩
  have tw1 := tw.step r1 s1
  have hl := (sortI_perm x.raw).length_eq
  have hc := icompact_h (sortI x.raw) (by have := raw_len x; omega) h M1 r1
  rw [hl] at hc
  simp -dsimp [g3, g4]
  refine acallsW_of hc ?_
  rintro e M2 ⟨rfl, r2, s2⟩
  have tw2 := tw1.step r2 s2
  rw [hB.out] at tw2
  simp -dsimp [g3, g4]
  refine ⟨h, hd, compRow (sortI x.raw), (Lib.compact (sortI x.raw)).length, by rw [compRow_len, hl], ⟨tw2.own.less, tw2.dwn.less, tw2.ne⟩, ?_, ?_⟩
  · rw [compRow_len]; exact compact_len _
  · rw [compRow_take, compact_sort]; rfl
theorem uses_ok (x : Line) (H : List Blk) : ACalls Try.prog 46 [.agg x.cells] H (fun e H' => e = .ret (.tup [Int.sl x.uses, Int.sl x.defs]) ∧ H' = H) := by
  refine acalls_under fun hu _ => acalls_weakE (acalls_tidy ((uses_own x H).mono ?_))
  rintro e M ⟨h, hd, es, m, rfl, tw, hm, ht⟩
  have := tidy_row2 (R := fun e H' => e = .ret (.tup [Int.sl x.uses, Int.sl x.defs]) ∧ H' = H) (m1 := m) (m2 := x.defs.length) hu tw.own tw.dwn (int_frzB _) (int_frzB _) tw.ne (map_len es).symm (map_len x.defs).symm ⟨by
    rw [← List.map_take, ht, List.take_of_length_le (by simp)], rfl⟩
  rwa [cutS_all] at this
end Go.Proofs
namespace Go.Proofs
open Go.Mu
theorem whereM_step {c : List Line} {i : Nat} (h : i < c.length) (t : List (Int × Int)) : whereM (c.drop i) i t = whereM (c.drop (i + 1)) (i + 1) (if c[i].kind = 2 then iset c[i].label (i : Int) t else t) := by rw [drop_cons h, whereM]
structure AtR (l : Linear) (H : List Blk) (k : Nat) (M : List Blk) : Prop where
  pre : ∃ L, M = H ++ L
  new : H.length ≤ k
  map : M[k]? = some (.map (atM (whereM l.code 0 [])))
def WhI (l : Linear) (H : List Blk) (i : Nat) (H' : List Blk) : Prop := ∃ t L, H' = H ++ .box 25 [I l.vars, Int.sl l.params, Int.sl l.rets, I l.frame, Line.sl l.code] :: .map (atM t) :: L ∧ whereM (l.code.drop i) i t = whereM l.code 0 []
theorem where_ok (l : Linear) (hc : l.code.length ≤ 2^40) (H : List Blk) : ACalls Try.prog 78 [.agg l.cells] H (fun e M => e = .ret (.hm (H.length + 1)) ∧ AtR l H (H.length + 1) M) := by
  refine acalls_of_vc (hn := fun _ => false) (od := fun _ => none) Try.func78 rfl (by kernel_rfl) ?_
  simp -dsimp
  refine loop_rule (hn := fun _ => false) (od := fun _ => none) (fun (i : Nat) f H' => WhI l H i H' ∧ f 3 = .hm (H.length + 1) ∧ f 8 = Line.sl l.code ∧ f 9 = I l.code.length ∧ f 10 = I i ∧ i ≤ l.code.length) (fun i => l.code.length - i) (by kernel_rfl) 0
    (by refine ⟨⟨[], [], by simp [atM], rfl⟩, ?_⟩; simp) ?_
  rintro i f _ ⟨⟨t, L, rfl, hinv⟩, h3, h8, h9, h10, hi⟩
  simp -dsimp [h3, h8, h9, h10]
  refine condVW_introD (fun hlt => ?_) (fun hlt => ?_)
  · have g := List.getElem?_eq_getElem hlt
    rw [whereM_step hlt] at hinv
    obtain ⟨x, hx⟩ : ∃ x, x = l.code[i] := ⟨_, rfl⟩
    rw [← hx] at g hinv
    clear hx
    replace hinv := Hid.mk hinv
    have hset := atM_set x.label (i : Int) t
    simp -dsimp [h3, h8, h9, h10, g]
    by_cases hk : x.kind = 2
    · have hkb : (x.kind == 2) = true := by simpa using hk
      simp -dsimp [h3, h8, h9, h10, g, hkb, mapEs, hset]
      have hinv := hinv.out
      rw [if_pos hk] at hinv
      exact ⟨i + 1, by omega, ⟨_, _, rfl, hinv⟩, wrapS (by omega), by omega⟩
    · have hkb : (x.kind == 2) = false := by simpa using hk
      simp -dsimp [h3, h8, h9, h10, g, hkb]
      have hinv := hinv.out
      rw [if_neg hk] at hinv
      exact ⟨i + 1, by omega, ⟨_, _, rfl, hinv⟩, wrapS (by omega), by omega⟩
  · rw [drop_end hlt, whereM] at hinv
    subst hinv
    simp -dsimp [h3]
    exact ⟨⟨_, rfl⟩, by omega, by simp⟩
end Go.Proofs
namespace Go.Proofs
open Go.Mu
def nxtU (l : Linear) (i : Nat) (x : Line) : List Int := if x.kind = 3 then [(whr l.code x.label : Int)] else if x.kind = 4 then [(i : Int) + 1, (whr l.code x.label : Int)] else [(i : Int) + 1]
theorem nxtU_rise {l : Linear} {i : Nat} {x : Line} (hx : l.code[i]? = some x) (h5 : x.kind ≠ 5) : riseL (nxtU l i x) = nxt l i := by
  unfold nxt nxtU
  rw [hx]
  simp only [h5, if_false]
  split
  · rfl
  · split <;> rfl
theorem nxtU_len (l : Linear) (i : Nat) (x : Line) : (nxtU l i x).length ≤ 2 := by
  unfold nxtU
  repeat' split
  all_goals simp
theorem whr_lab {l : Linear} (ho : LinOk l) {i : Nat} {x : Line} (hx : l.code[i]? = some x) (hk : x.kind = 3 ∨ x.kind = 4) : ilook x.label (whereM l.code 0 []) = some (whr l.code x.label : Int) := by
  have hj := ho.jump x (List.mem_of_getElem? hx) hk
  have hn : (labs l.code).Nodup := whr_nodup.2 ho.uniq
  rw [whereM_look _ _ _ _ hn, if_pos hj]; simp
def NextI (l : Linear) (i : Nat) (x : Line) (B : List Blk) (f : Fr) (M : List Blk) : Prop := x.kind ≠ 5 ∧ ∃ h, f 7 = hrow h (nxtU l i x).length ∧ OwnI B M h (nxtU l i x)
theorem nextI_of {l : Linear} {i : Nat} {x : Line} {B M : List Blk} {b : Blk} {f : Fr} (h5 : x.kind ≠ 5) (hM : M = B ++ [b, .row 3 1 ((nxtU l i x).map fun n => [I n])]) (h : f 7 = .hs (B.length + 1) 0 (nxtU l i x).length (nxtU l i x).length) : NextI l i x B f M := by
  subst hM
  exact ⟨h5, some (B.length + 1), h, ⟨⟨_, rfl⟩, fun k hk => by cases hk; simp, fun h => by (cases h), fun k hk => by cases hk; omega⟩⟩
def nxHn (d : Nat) : Bool := d == 30 || d == 37 || d == 42
theorem next_ok (l : Linear) (ho : LinOk l) (hc : l.code.length ≤ 2^40) (i k : Nat) (hi : i < l.code.length) (H : List Blk) (hk : H[k]? = some (.map (atM (whereM l.code 0 [])))) : ACalls Try.prog 79 [.agg l.cells, I i, .hm k] H (fun e H' => e = .ret (Int.sl (nxt l i)) ∧ H' = H) := by
  refine acalls_under fun hu _ => acalls_weakE (acalls_tidy (acalls_of_awp Try.func79 rfl (by kernel_rfl) ?_))
  obtain ⟨x, hx⟩ : ∃ x, l.code[i]? = some x := ⟨_, List.getElem?_eq_getElem hi⟩
  obtain ⟨B, hB⟩ : ∃ B, B = H ++ [.box 25 l.cells] := ⟨_, rfl⟩
  have hBl : Hid (B.length = H.length + 1) := ⟨by rw [hB]; simp⟩
  have hb : ∀ L, (B ++ L)[H.length]? = some (.box 25 l.cells) := fun L => by rw [hB]; simp
  have hm : ∀ L, (B ++ L)[k]? = some (.map (atM (whereM l.code 0 []))) := fun L => by rw [hB, List.append_assoc]; exact get_app_old hk _
  have hb0 := hb []
  rw [List.append_nil] at hb0
  simp only [Linear.cells] at hb hb0
  have u0 : i < l.code.length := hi
  have fin : Hid (∀ L, nxt l i = [(l.code.length : Int)] → Tidy H (WeakE fun e H' => e = .ret (Int.sl (nxt l i)) ∧ H' = H) (.ret (.vs 1 [[I l.code.length]])) (B ++ L)) := ⟨fun L h => by
    rw [hB, List.append_assoc]
    exact tidy_same rfl ⟨_, .refl _, by rw [h]; exact ⟨rfl, rfl⟩⟩⟩
  replace hB := Hid.mk hB
  have hu := Hid.mk hu
  refine awp_cut (fun _ => false) (fun _ => none) (fun f H' => B = H' ∧ f 3 = .bp H.length 0 ∧ f 1 = I i ∧ f 2 = .hm k) (by kernel_rfl) ?_ ?_
  · simp -dsimp [hB.out]
  rintro g _ ⟨rfl, g3, g1, g2⟩
  refine awp_cut (fun _ => false) (fun _ => none) (fun f H' => B = H' ∧ f 3 = .bp H.length 0 ∧ f 1 = I i ∧ f 2 = .hm k ∧ f 7 = nilS) (by kernel_rfl) ?_ ?_
  · simp -dsimp [g1, g2, g3]
  clear g g1 g2 g3
  rintro g _ ⟨rfl, g3, g1, g2, g7⟩
  have hw := whr_lab ho hx
  have hf := atM_find x.label (whereM l.code 0 [])
  have me : ∀ L, mapEs (B ++ L) (.hm k) = some (atM (whereM l.code 0 [])) := fun L => by simp only [mapEs, hm]
  have hi' := Hid.mk hi
  have h5 := nxtU_rise hx
  have he : x.kind = 5 → nxt l i = [(l.code.length : Int)] := fun h => by unfold nxt; rw [hx]; simp [h]
  replace h5 := Hid.mk h5
  replace he := Hid.mk he
  refine awp_cut nxHn (fun _ => none) (NextI l i x B) (by kernel_rfl) ?_ ?_
  · simp -dsimp [g1, g2, g3, g7, hb, hb0, hx, nxHn]
    have hwr : IntKind.i64.wrap ((i : Int) + 1) = (i : Int) + 1 := by have := wrapS (i := i) (by omega); omega
    have ua : x.kind = 5 ∨ x.kind = 4 ∨ x.kind = 3 ∨ (x.kind ≠ 5 ∧ x.kind ≠ 4 ∧ x.kind ≠ 3) := by omega
    rcases ua with hk5 | hk4 | hk3 | ⟨n5, n4, n3⟩
    · have b5 : (x.kind == 5) = true := by simpa using hk5
      simp -dsimp [g1, g2, g3, g7, hb, hb0, hx, nxHn, b5]
      exact fin.out _ (he.out hk5)
    · have b5 : (x.kind == 5) = false := by simp [hk4]
      have b4 : (x.kind == 4) = true := by simpa using hk4
      rw [hw (.inr hk4)] at hf
      simp -dsimp [g1, g2, g3, g7, hb, hb0, hx, nxHn, b5, b4, hwr]
      refine app_n1 (by simp) ?_
      simp -dsimp [g1, g2, g3, g7, hb, hb0, hx, nxHn, b5, b4, hwr, me, hf]
      refine app_h1 rfl rfl rfl (by simp) (by simp) ?_
      simp -dsimp [g1, g2, g3, g7, hb, hb0, hx, nxHn, b5, b4, hwr, me, hf]
      refine nextI_of (b := .box 41 x.cells) (by omega) (by simp [nxtU, hk4]) ?_
      simp [nxtU, hk4]
    · have b5 : (x.kind == 5) = false := by simp [hk3]
      have b4 : (x.kind == 4) = false := by simp [hk3]
      have b3 : (x.kind == 3) = true := by simpa using hk3
      rw [hw (.inl hk3)] at hf
      simp -dsimp [g1, g2, g3, g7, hb, hb0, hx, nxHn, b5, b4, b3, hwr, me, hf]
      refine app_n1 (by simp) ?_
      simp -dsimp [g1, g2, g3, g7, hb, hb0, hx, nxHn, b5, b4, b3, hwr]
      refine nextI_of (b := .box 41 x.cells) (by omega) (by simp [nxtU, hk3]) ?_
      simp [nxtU, hk3]
    · have b5 : (x.kind == 5) = false := by simpa using n5
      have b4 : (x.kind == 4) = false := by simpa using n4
      have b3 : (x.kind == 3) = false := by simpa using n3
      simp -dsimp [g1, g2, g3, g7, hb, hb0, hx, nxHn, b5, b4, b3, hwr]
      refine app_n1 (by simp) ?_
      simp -dsimp [g1, g2, g3, g7, hb, hb0, hx, nxHn, b5, b4, b3, hwr]
      refine nextI_of (b := .box 41 x.cells) (by omega) (by simp [nxtU, n3, n4]) ?_
      simp [nxtU, n3, n4]
  clear g g1 g2 g3 g7
  rintro g M ⟨q5, h, g7, ow⟩
  have hlen := nxtU_len l i x
  have hs := isort_h (nxtU l i x) (by omega) h M ow.at'
  refine awp_all nxHn (fun _ => none) (by kernel_rfl) ?_
  simp -dsimp [g7]
  refine acallsW_of hs ?_
  rintro e M1 ⟨rfl, r1, s1⟩
  have ow1 := ow.step r1 s1
  have hl := (sortI_perm (nxtU l i x)).length_eq
  have hc := icompact_h (sortI (nxtU l i x)) (by omega) h M1 r1
  rw [hl] at hc
  simp -dsimp [g7]
  refine acallsW_of hc ?_
  rintro e M2 ⟨rfl, r2, s2⟩
  have ow2 := ow1.step r2 s2
  rw [hB.out] at ow2
  simp -dsimp [g7]
  refine tidy_row1 hu.out ow2.less (int_frzB _) (by simp [compRow_len, hl]) ⟨?_, rfl⟩
  rw [← List.map_take, compRow_take, compact_sort, h5.out q5]
end Go.Proofs
namespace Go.Proofs
open Go.Mu
def neHn (d : Nat) : Bool := d == 23
def neOd (i : Nat) : Option OPlan := if i = 3 then some [(0, []), (1, []), (2, []), (3, [0]), (4, []), (5, []), (6, [])] else none
structure Linear.Sm (l : Linear) : Prop where
  params : l.params.length ≤ 2^36
  rets : l.rets.length ≤ 2^36
  code : l.code.length ≤ 2^36
theorem nexts_ok (l : Linear) (hs : l.Sm) (hok : l.ok = true) (i : Nat) (hi : i < l.code.length) (H : List Blk) : ACalls Try.prog 102 [.agg l.cells, I i] H (fun e H' => e = .ret (.tup [Int.sl (nxt l i), I 0]) ∧ H' = H) := by
  have ho := ((ok_iff l).1 hok).1
  refine acalls_under fun hu _ => acalls_tidy (acalls_of_vc (hn := neHn) (od := neOd) Try.func102 rfl (by kernel_rfl) ?_)
  have c1 := linear_ok l (by have := hs.params; omega) (by have := hs.rets; omega) (by have := hs.code; omega)
  have c2 := where_ok l (by have := hs.code; omega)
  have c3 := fun H k h => next_ok l ho (by have := hs.code; omega) i k hi H h
  simp only [Linear.cells, hok] at c1 c2 c3
  simp -dsimp
  refine acallsW_det (c1 _) ?_
  have n1 : ¬ ((i : Int) < 0) := by omega
  have n2 : ¬ ((l.code.length : Int) ≤ i) := by omega
  simp -dsimp [n1, n2]
  simp -dsimp [neOd, neHn]
  refine acallsW_of (c2 _) ?_
  rintro e M ⟨rfl, ⟨L, rfl⟩, hnew, hm⟩
  have hb : (H ++ [Blk.box 25 [I l.vars, Int.sl l.params, Int.sl l.rets, I l.frame, Line.sl l.code]] ++ L)[H.length]? = some (Blk.box 25 [I l.vars, Int.sl l.params, Int.sl l.rets, I l.frame, Line.sl l.code]) := by simp
  obtain ⟨N, hN⟩ : ∃ N, N = H ++ [Blk.box 25 [I l.vars, Int.sl l.params, Int.sl l.rets, I l.frame, Line.sl l.code]] ++ L := ⟨_, rfl⟩
  rw [← hN] at hm hb ⊢
  replace hN := Hid.mk hN
  obtain ⟨q, hq⟩ : ∃ q, q = (H ++ [Blk.box 25 [I l.vars, Int.sl l.params, Int.sl l.rets, I l.frame, Line.sl l.code]]).length + 1 := ⟨_, rfl⟩
  rw [← hq] at hm ⊢
  have e24 : neHn 24 = false := rfl
  simp -dsimp [neOd, e24, hb]
  refine callDW_intro (c3 _ _ hm) ?_
  simp -dsimp [neOd, neHn, hb]
  rw [hN.out, List.append_assoc]
  exact tidy_same rfl ⟨rfl, rfl⟩
end Go.Proofs
namespace Go.Proofs
open Go.Mu
def updS (S : Nat → List Int) (i : Nat) (s : List Int) : Nat → List Int := fun j => if j = i then s else S j
@[simp] theorem updS_same (S : Nat → List Int) (i : Nat) (s : List Int) : updS S i s i = s := by simp [updS]
theorem updS_ne (S : Nat → List Int) {i j : Nat} (s : List Int) (h : j ≠ i) : updS S i s j = S j := by simp [updS, h]
def tot (n : Nat) (S : Nat → List Int) : Nat := ((List.range (n + 1)).map fun j => (S j).length).sum
theorem sum_upd (f : Nat → Nat) (i d : Nat) : ∀ (n : Nat), i < n → ((List.range n).map fun j => if j = i then f j + d else f j).sum = ((List.range n).map f).sum + d
  | 0, h => by omega
  | n + 1, h => by
    rw [List.range_succ, List.map_append, List.map_append, List.sum_append, List.sum_append]
    by_cases e : i = n
    · subst e
      have : ((List.range i).map fun j => if j = i then f j + d else f j) = (List.range i).map f := List.map_congr_left fun j hj => by rw [if_neg]; have := List.mem_range.1 hj; omega
      rw [this]; simp; omega
    · rw [sum_upd f i d n (by omega)]
      simp only [List.map_cons, List.map_nil, List.sum_cons, List.sum_nil, if_neg (fun h : n = i => e h.symm)]; omega
theorem tot_add {n i : Nat} {S : Nat → List Int} {v : Int} (hi : i ≤ n) : tot n (updS S i (S i ++ [v])) = tot n S + 1 := by
  unfold tot
  have : (fun j => (updS S i (S i ++ [v]) j).length) = fun j => if j = i then (S j).length + 1 else (S j).length := by
    funext j
    by_cases e : j = i
    · subst e; simp
    · rw [updS_ne _ _ e, if_neg e]
  rw [this]
  exact sum_upd (fun j => (S j).length) i 1 (n + 1) (by omega)
theorem nodup_lenI : ∀ (n : Nat) (s : List Int), s.Nodup → (∀ v ∈ s, 0 ≤ v ∧ v < n) → s.length ≤ n
  | 0, s, _, h => by cases s with
    | nil => simp
    | cons x s => have := h x (List.mem_cons_self ..); omega
  | n + 1, s, hs, h => by
    by_cases hn : (n : Int) ∈ s
    · have h1 := nodup_lenI n (s.erase n) (hs.erase _) (fun j hj => by
        have hm := (hs.mem_erase_iff.1 hj)
        have := h j hm.2
        have := hm.1
        omega)
      rw [List.length_erase_of_mem hn] at h1
      omega
    · have := nodup_lenI n s hs (fun j hj => by have := h j hj; have : j ≠ (n : Int) := fun e => hn (e ▸ hj); omega)
      omega
structure GoodS (l : Linear) (S : Nat → List Int) : Prop where
  once : ∀ i, i ≤ l.code.length → (S i).Nodup
  live : ∀ i, i ≤ l.code.length → ∀ v ∈ S i, LiveAt l i v
  rets : ∀ v ∈ l.rets, v ∈ S l.code.length
def ClosedAt (l : Linear) (S : Nat → List Int) (i : Nat) (x : Line) : Prop := (∀ k ∈ nxt l i, ∀ v ∈ S k.toNat, v ∉ x.defs → v ∈ S i) ∧ ∀ v ∈ x.raw, v ∈ S i
theorem GoodS.add {l : Linear} {S : Nat → List Int} (g : GoodS l S) {i : Nat} {v : Int} (hi : i ≤ l.code.length) (hv : v ∉ S i) (hl : LiveAt l i v) : GoodS l (updS S i (S i ++ [v])) := by
  refine ⟨fun j hj => ?_, fun j hj w hw => ?_, fun w hw => ?_⟩
  · by_cases e : j = i
    · subst e
      rw [updS_same, List.nodup_append]
      exact ⟨g.once j hj, by simp, fun a ha b hb e => hv (by rw [List.mem_singleton] at hb; rw [← hb, ← e]; exact ha)⟩
    · rw [updS_ne _ _ e]; exact g.once j hj
  · by_cases e : j = i
    · subst e
      rw [updS_same] at hw
      rcases List.mem_append.1 hw with hw | hw
      · exact g.live j hj w hw
      · rw [List.mem_singleton] at hw; subst hw; exact hl
    · rw [updS_ne _ _ e] at hw; exact g.live j hj w hw
  · have := g.rets w hw
    by_cases e : l.code.length = i
    · subst e; rw [updS_same]; exact List.mem_append_left _ this
    · rw [updS_ne _ _ e]; exact this
theorem GoodS.tot_le {l : Linear} (ho : LinOk l) {S : Nat → List Int} (g : GoodS l S) : tot l.code.length S ≤ (l.code.length + 1) * l.vars.toNat := by
  have h1 : ∀ i, i ≤ l.code.length → (S i).length ≤ l.vars.toNat := fun i hi => nodup_lenI _ _ (g.once i hi) fun v hv => by
    have := (live_in ho (g.live i hi v hv)).1; omega
  have h2 : ∀ m, m ≤ l.code.length + 1 → ((List.range m).map fun j => (S j).length).sum ≤ m * l.vars.toNat := by
    intro m
    induction m with
    | zero => simp
    | succ m ih =>
      intro hm
      rw [List.range_succ, List.map_append, List.sum_append, Nat.succ_mul]
      have := h1 m (by omega)
      have := ih (by omega)
      simp; omega
  exact h2 _ (Nat.le_refl _)
theorem GoodS.all {l : Linear} (ho : LinOk l) {S : Nat → List Int} (g : GoodS l S) (hc : ∀ i x, l.code[i]? = some x → ClosedAt l S i x) {i : Nat} (hi : i ≤ l.code.length) (v : Int) : v ∈ S i ↔ LiveAt l i v := by
  refine ⟨g.live i hi v, fun h => ?_⟩
  refine live_closed (S := fun i v => v ∈ S i) g.rets (fun i x v hx hv => (hc i x hx).2 v hv) (fun i x k v hx hd hk hv => (hc i x hx).1 k hk v (by simpa using hv) hd) h
theorem GoodS.rise {l : Linear} (ho : LinOk l) {S : Nat → List Int} (g : GoodS l S) (hc : ∀ i x, l.code[i]? = some x → ClosedAt l S i x) {i : Nat} (hi : i ≤ l.code.length) : riseL (S i) = liveL l i :=
  (rise_eq (liveL_rise l i) fun v => (live_mem ho).trans (g.all ho hc hi v).symm).symm
theorem nxt_ne {l : Linear} (ho : LinOk l) {i : Nat} {k : Int} (hk : k ∈ nxt l i) : k ≠ (i : Int) := by
  have hin := nxt_in ho hk
  unfold nxt at hk
  rw [List.getElem?_eq_getElem hin.2.2] at hk
  have hx := List.getElem?_eq_getElem hin.2.2
  obtain ⟨x, hxe⟩ : ∃ x, x = l.code[i] := ⟨_, rfl⟩
  rw [← hxe] at hx hk
  have hw : x.kind = 3 ∨ x.kind = 4 → (whr l.code x.label : Int) ≠ i := fun h e => by
    have e' : whr l.code x.label = i := by omega
    have hj := ho.jump x (List.mem_of_getElem? hx) h
    have hl : isLab x.label (l.code[whr l.code x.label]'hj) = true := List.findIdx_getElem
    have : l.code[whr l.code x.label]'hj = x := by
      have q := List.getElem?_eq_getElem hj
      have q2 : l.code[whr l.code x.label]? = l.code[i]? := by rw [e']
      rw [q2, hx, Option.some.injEq] at q
      exact q.symm
    rw [this] at hl
    have := (isLab_iff.1 hl).1
    omega
  simp only at hk
  split at hk
  · rw [List.mem_singleton] at hk; omega
  · split at hk
    · rw [List.mem_singleton] at hk; rw [hk]; exact hw (by omega)
    · split at hk
      · rw [riseL_mem] at hk
        rcases List.mem_cons.1 hk with e | e
        · omega
        · rw [List.mem_singleton] at e; rw [e]; exact hw (by omega)
      · rw [List.mem_singleton] at hk; omega
def liveRow (p m : Nat) : List (List AV) := (List.range m).map fun j => [.hm (p + 1 + j)]
def Lv (P : List Blk) (n : Nat) (S : Nat → List Int) (L : List Blk) : List Blk := P ++ (.row 111 1 (liveRow P.length (n + 1)) :: ((List.range (n + 1)).map fun j => Blk.map (stand (S j))) ++ L)
theorem lv_row (P : List Blk) (n : Nat) (S : Nat → List Int) (L : List Blk) : (Lv P n S L)[P.length]? = some (.row 111 1 (liveRow P.length (n + 1))) := by unfold Lv; rw [List.getElem?_append_right (by omega)]; simp
theorem lv_old {P : List Blk} {i : Nat} {b : Blk} (h : P[i]? = some b) (n : Nat) (S : Nat → List Int) (L : List Blk) : (Lv P n S L)[i]? = some b := by unfold Lv; exact get_app_old h _
theorem lv_map (P : List Blk) {n j : Nat} (hj : j ≤ n) (S : Nat → List Int) (L : List Blk) : (Lv P n S L)[P.length + 1 + j]? = some (.map (stand (S j))) := by
  unfold Lv
  rw [List.getElem?_append_right (by omega), show P.length + 1 + j - P.length = j + 1 by omega, List.cons_append, List.getElem?_cons_succ, List.getElem?_append_left (by simp; omega), List.getElem?_map, List.getElem?_range (by omega)]; rfl
theorem lv_set (P : List Blk) {n j : Nat} (hj : j ≤ n) (S : Nat → List Int) (L : List Blk) (s : List Int) : (Lv P n S L).set (P.length + 1 + j) (.map (stand s)) = Lv P n (updS S j s) L := by
  unfold Lv
  rw [List.set_append, if_neg (by omega), show P.length + 1 + j - P.length = j + 1 by omega, List.cons_append, List.set_cons_succ, List.cons_append, List.set_append, if_pos (by simp; omega)]
  congr 3
  apply List.ext_getElem?
  intro i
  rw [List.getElem?_set]
  by_cases h : i < n + 1
  · by_cases e : j = i
    · subst e
      rw [if_pos rfl, if_pos (by simp; omega), List.getElem?_map, List.getElem?_range h]; simp
    · rw [if_neg e, List.getElem?_map, List.getElem?_map, List.getElem?_range h]
      simp only [Option.map_some]
      rw [updS_ne _ _ (fun h => e h.symm)]
  · rw [List.getElem?_eq_none (l := (List.range (n + 1)).map fun j_1 => Blk.map (stand (updS S j s j_1))) (by simp; omega)]
    by_cases e : j = i
    · subst e; omega
    · rw [if_neg e, List.getElem?_eq_none (by simp; omega)]
theorem lv_app (P : List Blk) (n : Nat) (S : Nat → List Int) (L X : List Blk) : Lv P n S L ++ X = Lv P n S (L ++ X) := by unfold Lv; simp [List.append_assoc]
theorem lv_len (P : List Blk) (n : Nat) (S : Nat → List Int) (L : List Blk) : (Lv P n S L).length = P.length + 1 + (n + 1) + L.length := by unfold Lv; simp; omega
theorem lv_junk (P : List Blk) (n : Nat) (S : Nat → List Int) (L X : List Blk) (b : Blk) : (Lv P n S (L ++ b :: X))[P.length + 1 + (n + 1) + L.length]? = some b := by
  rw [← lv_app, List.getElem?_append_right (by rw [lv_len]; omega), lv_len]; simp
theorem lv_junkset (P : List Blk) (n : Nat) (S : Nat → List Int) (L X : List Blk) (b c : Blk) : (Lv P n S (L ++ b :: X)).set (P.length + 1 + (n + 1) + L.length) c = Lv P n S (L ++ c :: X) := by
  rw [← lv_app, ← lv_app, List.set_append, if_neg (by rw [lv_len]; omega), lv_len]; simp
theorem liveRow_get {p m j : Nat} (h : j < m) : (liveRow p m)[j]? = some [.hm (p + 1 + j)] := by unfold liveRow; rw [List.getElem?_map, List.getElem?_range h]; rfl
theorem liveRow_len (p m : Nat) : (liveRow p m).length = m := by simp [liveRow]
theorem midx_stand (v : Int) : ∀ (s : List Int), v ∉ s → midx (.int .i64) (.int .i64 v) (stand s) = s.length
  | [], _ => rfl
  | a :: s, h => by
    simp only [List.mem_cons, not_or] at h
    have e : (v == a) = false := by simp [h.1]
    have : stand (a :: s) = (.int .i64 a, .agg [Bo true]) :: stand s := rfl
    rw [this, midx, sameNow_i64, e]
    simp only [midx_stand v s h.2]; rfl
theorem stand_ent (v : Int) : ∀ (s : List Int), v ∉ s → mset (.int .i64) (.int .i64 v) (.agg [Bo false]) (stand s) = some (stand s ++ [(.int .i64 v, .agg [Bo false])])
  | [], _ => rfl
  | a :: s, h => by
    simp only [List.mem_cons, not_or] at h
    have e : (v == a) = false := by simp [h.1]
    have : stand (a :: s) = (.int .i64 a, .agg [Bo true]) :: stand s := rfl
    rw [this, mset, sameNow_i64, e]
    simp only [stand_ent v s h.2]; rfl
theorem stand_len (s : List Int) : (stand s).length = s.length := by simp [stand]
theorem stand_fin (v : Int) (s : List Int) : (stand s ++ [(Value.int .i64 v, AV.agg [Bo false])]).modify s.length (fun p => (p.1, AV.agg [Bo true])) = stand (s ++ [v]) := by
  apply List.ext_getElem?
  intro j
  rw [List.getElem?_modify]
  have hs := stand_len s
  by_cases h : j < s.length
  · have hne : s.length ≠ j := by omega
    rw [List.getElem?_append_left (by omega)]
    simp [stand, List.getElem?_append_left h, hne]
    rw [List.getElem?_append_left (by simpa using h)]; simp
  · rw [List.getElem?_append_right (by omega), hs]
    by_cases e : j = s.length
    · subst e; simp [stand]
    · rw [List.getElem?_eq_none (l := [(Value.int .i64 v, AV.agg [Bo false])]) (by simp; omega), List.getElem?_eq_none (by simp [stand]; omega)]; rfl
end Go.Proofs
namespace Go.Proofs
open Go.Mu
theorem isorted_give (t : List Int) (ht : t.Nodup) (hl : t.length ≤ 2^40) (km b : Nat) (H : List Blk) (hb : H[b]? = some (.box 111 [.hm km])) (hk : H[km]? = some (.map (stand t))) :
    ACalls Try.prog 81 [.fn (.func 113) [] [.bp b 0]] H (fun e H' => e = .ret (Int.sl (riseL t)) ∧ H' = H) := by
  refine acalls_under fun hu _ => acalls_weakE (acalls_tidy ((isorted_ok t km b hl H hb hk).mono ?_))
  rintro e M ⟨ns, hp, rfl, rfl⟩
  have e1 : sortI ns = riseL t := by
    rw [sort_rise (hp.nodup_iff.2 ht)]
    exact sorted_ext (riseL_rise _) (riseL_rise _) fun x => by rw [riseL_mem, riseL_mem]; exact hp.mem_iff
  rw [e1]
  have o : OwnI H (H ++ [intB (riseL t)]) (if riseL t = [] then none else some H.length) (riseL t) := by
    by_cases he : riseL t = []
    · rw [if_pos he, he]; exact .nil0 _ _ _ _
    · rw [if_neg he]
      exact ⟨⟨_, rfl⟩, fun k hk => by (cases hk; simp [ownB, he]), fun h => by (cases h), fun k hk => by cases hk; exact Nat.le_refl _⟩
  have := tidy_rowA (n := (riseL t).length) (R := fun e H' => e = .ret (Int.sl (riseL t)) ∧ H' = H) hu o (int_frzB _) (map_len _).symm ⟨rfl, rfl⟩
  have e2 : intS H.length (riseL t) = hrow (if riseL t = [] then none else some H.length) (riseL t).length := by
    by_cases he : riseL t = []
    · rw [if_pos he, he]; rfl
    · rw [if_neg he]; simp [ownS, he, hrow]
  rw [e2]; exact this
noncomputable def lvL (l : Linear) : List (List Int) := (List.range l.code.length).map (liveL l)
abbrev Ints.sl (l : List (List Int)) : AV := .vs 1 (l.map fun x => [Int.sl x])
theorem stand_set_in (n : Int) : ∀ (ls : List Int), n ∈ ls → mset (.int .i64) (.int .i64 n) (.agg [Bo true]) (stand ls) = some (stand ls)
  | [], h => by simp at h
  | a :: ls, h => by
    have : stand (a :: ls) = (.int .i64 a, .agg [Bo true]) :: stand ls := rfl
    rw [this, mset, sameNow_i64]
    by_cases e : n = a
    · subst e; simp
    · have e' : (n == a) = false := by simp [e]
      rw [e']
      rcases List.mem_cons.1 h with h | h
      · exact absurd h e
      · simp only [stand_set_in n ls h]; rfl
def putS (v : Int) (s : List Int) : List Int := if v ∈ s then s else s ++ [v]
theorem stand_put (v : Int) (s : List Int) : mset (.int .i64) (.int .i64 v) (.agg [Bo true]) (stand s) = some (stand (putS v s)) := by
  unfold putS
  by_cases h : v ∈ s
  · rw [if_pos h]; exact stand_set_in v s h
  · rw [if_neg h]; exact stand_set v s h
theorem putS_nodup {v : Int} {s : List Int} (h : s.Nodup) : (putS v s).Nodup := by
  unfold putS
  split
  · exact h
  · rename_i hv
    rw [List.nodup_append]
    exact ⟨h, by simp, fun a ha b hb e => hv (by rw [List.mem_singleton] at hb; rw [← hb, ← e]; exact ha)⟩
theorem putS_mem {v w : Int} {s : List Int} : w ∈ putS v s ↔ w ∈ s ∨ w = v := by
  unfold putS
  split
  · rename_i h; exact ⟨.inl, fun q => q.elim id (fun e => e ▸ h)⟩
  · simp
theorem lv_es (P : List Blk) {n j : Nat} (hj : j ≤ n) (S : Nat → List Int) (L : List Blk) : mapEs (Lv P n S L) (.hm (P.length + 1 + j)) = some (stand (S j)) := by simp only [mapEs, lv_map P hj]
theorem lv_cells (P : List Blk) {n j : Nat} (hj : j ≤ n) (S : Nat → List Int) (L : List Blk) : cellsAt (Lv P n S L) (.rp P.length (n + 1) j 0) = some [.hm (P.length + 1 + j)] := by simp [cellsAt, lv_row, liveRow_len, liveRow_get (show j < n + 1 by omega)]
def RetI (l : Linear) (P : List Blk) (n i : Nat) (M : List Blk) : Prop := ∃ S, M = Lv P n S [] ∧ (∀ j, j ≤ n → (S j).Nodup) ∧ (∀ j, j ≤ n → ∀ v ∈ S j, j = n ∧ v ∈ l.rets) ∧ ∀ v ∈ l.rets.take i, v ∈ S n
def LiveI (l : Linear) (P : List Blk) (n : Nat) (S0 : Nat → List Int) (i : Nat) (f10 : AV) (M : List Blk) : Prop := ∃ S L c, M = Lv P n S L ∧ GoodS l S ∧ tot n S0 ≤ tot n S ∧ (c = true → tot n S0 < tot n S) ∧ f10 = Bo c ∧ (c = false → ∀ j x, i ≤ j → l.code[j]? = some x → ClosedAt l S j x)
def StI (l : Linear) (P : List Blk) (n : Nat) (S0 S1 : Nat → List Int) (c1 : Bool) (C : Prop) (f10 : AV) (M : List Blk) : Prop := ∃ S L c, M = Lv P n S L ∧ GoodS l S ∧ tot n S0 ≤ tot n S ∧ (c = true → tot n S0 < tot n S) ∧ f10 = Bo c ∧ (c = false → c1 = false ∧ S = S1 ∧ C)
theorem StI.weak {l : Linear} {P : List Blk} {n : Nat} {S0 S1 : Nat → List Int} {c1 : Bool} {C C' : Prop} {f10 : AV} {M : List Blk} (h : StI l P n S0 S1 c1 C f10 M) (hC : C → C') : StI l P n S0 S1 c1 C' f10 M := by
  obtain ⟨S, L, c, h1, h2, h3, h4, h5, h6⟩ := h
  exact ⟨S, L, c, h1, h2, h3, h4, h5, fun hc => let ⟨a, b, d⟩ := h6 hc; ⟨a, b, hC d⟩⟩
def KsI (l : Linear) (i : Nat) (x : Line) (S1 : Nat → List Int) (q : Nat) : Prop := ∀ k ∈ (nxt l i).take q, ∀ v ∈ S1 k.toNat, v ∉ x.defs → v ∈ S1 i
def MapI (l : Linear) (P : List Blk) (n : Nat) (S0 S1 : Nat → List Int) (c1 : Bool) (C : Prop) (i k : Nat) (x : Line) (T : List Int) (L : List Blk) (seen : List Nat) (f10 : AV) (M : List Blk) : Prop := ∃ S c, M = Lv P n S (L ++ [.it (some (P.length + 1 + k)) T.length seen]) ∧ S k = T ∧ GoodS l S ∧ tot n S0 ≤ tot n S ∧ (c = true → tot n S0 < tot n S) ∧ f10 = Bo c ∧ (c = false → c1 = false ∧ S = S1 ∧ C ∧ ∀ j ∈ seen, ∀ v, T[j]? = some v → v ∉ x.defs → v ∈ S1 i)
theorem any_has (l : List Int) (v : Int) : (l.any fun x => decide (v = x)) = decide (v ∈ l) := by
  rw [Bool.eq_iff_iff]; simp [List.any_eq_true]
abbrev OwnLs (B M : List Blk) (h : Option Nat) (l : List (List Int)) : Prop := Own 22 1 B M h (l.map fun x => [Int.sl x])
theorem ints_frzB (l : List (List Int)) : (l.map fun x => [Int.sl x]).flatten.all AV.frzB = true := by
  induction l with
  | nil => rfl
  | cons x l ih => rw [List.map_cons, List.flatten_cons, List.all_append, ih]; simp [AV.frzB]
theorem live_ok (l : Linear) (hs : l.Sm) (hok : l.ok = true) (H : List Blk) : ACalls Try.prog 38 [.agg l.cells] H (fun e H' => e = .ret (.tup [Ints.sl (lvL l), I 0]) ∧ H' = H) := by
  have ho := ((ok_iff l).1 hok).1
  refine acalls_under fun hu _ => acalls_weakE (acalls_tidy (acalls_of_awp Try.func38 rfl (by kernel_rfl) ?_))
  have c1 := linear_ok l (by have := hs.params; omega) (by have := hs.rets; omega) (by have := hs.code; omega)
  have c2 := where_ok l (by have := hs.code; omega)
  simp only [Linear.cells, hok] at c1 c2
  obtain ⟨B, hB⟩ : ∃ B, B = H ++ [.box 25 l.cells] := ⟨_, rfl⟩
  have hb : B[H.length]? = some (.box 25 l.cells) := by rw [hB]; simp
  simp only [Linear.cells] at hb
  replace hB := Hid.mk hB
  have hu := Hid.mk hu
  refine awp_cut (fun _ => false) (fun _ => none) (fun f H' => B = H' ∧ f 1 = .bp H.length 0) (by kernel_rfl) ?_ ?_
  · simp -dsimp [hB.out]
  rintro g _ ⟨rfl, g1⟩
  refine awp_scope_r ?_
  refine awp_cut (fun _ => false) (fun _ => none) (fun f H' => B = H' ∧ f 1 = .bp H.length 0) (by kernel_rfl) ?_ ?_
  · simp -dsimp [g1, hb]
    refine acallsW_det (c1 _) ?_
    simp -dsimp [g1]
  clear g g1
  rintro g _ ⟨rfl, g1⟩
  refine awp_cut (fun _ => false) (fun _ => none) (fun f M => f 1 = .bp H.length 0 ∧ f 4 = .hm (B.length + 1) ∧ AtR l B (B.length + 1) M) (by kernel_rfl) ?_ ?_
  · simp -dsimp [g1, hb]
    refine acallsW_of (c2 _) ?_
    rintro e M ⟨rfl, hM⟩
    simp -dsimp [g1]
    exact hM
  clear g g1
  rintro g P ⟨g1, g4, ⟨L0, hP⟩, hnew, hm⟩
  have hbP : P[H.length]? = some (.box 25 [I l.vars, Int.sl l.params, Int.sl l.rets, I l.frame, Line.sl l.code]) := by rw [hP]; exact get_app_old hb _
  obtain ⟨a, ha⟩ : ∃ a, a = B.length + 1 := ⟨_, rfl⟩
  rw [← ha] at g4 hm
  replace hP := Hid.mk hP
  clear c1 c2 hb hnew
  have hn := hs.code
  have hrl := hs.rets
  obtain ⟨n, hnl⟩ : ∃ n, n = l.code.length := ⟨_, rfl⟩
  refine awp_cut (fun _ => false) (fun _ => none) (fun f M => P = M ∧ f 1 = .bp H.length 0 ∧ f 4 = .hm a ∧ f 5 = I n) (by kernel_rfl) ?_ ?_
  · simp -dsimp [g1, g4, hbP, hnl]
  clear g g1 g4
  rintro g _ ⟨rfl, g1, g4, g5⟩
  refine awp_cut (fun _ => false) (fun _ => none) (fun f M => P ++ [.row 111 1 (List.replicate (n + 1) [.v (.map none)])] = M ∧ f 1 = .bp H.length 0 ∧ f 4 = .hm a ∧ f 5 = I n ∧ f 6 = .hs P.length 0 (n + 1) (n + 1)) (by kernel_rfl) ?_ ?_
  · have hw : IntKind.i64.wrap ((n : Int) + 1) = ((n + 1 : Nat) : Int) := wrapS (by omega)
    simp -dsimp [g1, g4, g5, hw]
    have ht : ((n : Int) + 1).toNat = n + 1 := by omega
    refine ⟨⟨by omega, by omega, by omega⟩, ?_⟩
    simp -dsimp [g1, g4, g5, hw, ht]
  clear g g1 g4 g5
  rintro g _ ⟨rfl, g1, g4, g5, g6⟩
  have hn' : n ≤ 2^38 := by omega
  have hn1 := Hid.mk hn
  have hn2 := Hid.mk hnl
  -- each line's set
  refine awp_cut (fun _ => false) (fun _ => none) (fun f M => M = Lv P n (fun _ => []) [] ∧ f 1 = .bp H.length 0 ∧ f 4 = .hm a ∧ f 5 = I n ∧ f 6 = .hs P.length 0 (n + 1) (n + 1)) (by kernel_rfl) ?_ ?_
  · obtain ⟨Rw, hRw⟩ : ∃ Rw : Nat → List (List AV), ∀ i, Rw i = (List.range i).map (fun j => [.hm (P.length + 1 + j)]) ++ List.replicate (n + 1 - i) [.v (.map none)] := ⟨_, fun _ => rfl⟩
    have Rl : ∀ i, i ≤ n + 1 → (Rw i).length = n + 1 := fun i hi => by rw [hRw]; simp; omega
    have Rg : ∀ i, i < n + 1 → (Rw i)[i]? = some [.v (.map none)] := fun i hi => by
      rw [hRw, List.getElem?_append_right (by simp), List.length_map, List.length_range, Nat.sub_self, List.getElem?_replicate, if_pos (by omega)]
    have Rs : ∀ i, i < n + 1 → (Rw i).set i [.hm (P.length + 1 + i)] = Rw (i + 1) := fun i hi => by
      rw [hRw, hRw, List.set_append, if_neg (by simp), List.length_map, List.length_range, Nat.sub_self, show n + 1 - i = (n + 1 - (i + 1)) + 1 by omega, List.replicate_succ, List.set_cons_zero, List.range_succ, List.map_append]
      simp
    obtain ⟨G, hG⟩ : ∃ G : Nat → List Blk, ∀ i, G i = P ++ .row 111 1 (Rw i) :: List.replicate i (Blk.map []) := ⟨_, fun _ => rfl⟩
    have G0 : P ++ [.row 111 1 (List.replicate (n + 1) [.v (.map none)])] = G 0 := by rw [hG, hRw]; simp
    have Gr : ∀ i L, (G i ++ L)[P.length]? = some (.row 111 1 (Rw i)) := fun i L => by rw [hG]; simp
    have Gr0 : ∀ i, (G i)[P.length]? = some (.row 111 1 (Rw i)) := fun i => by rw [hG]; simp
    have Gs : ∀ i X, (G i ++ [Blk.map []]).set P.length (.row 111 1 X) = P ++ .row 111 1 X :: List.replicate (i + 1) (Blk.map []) := fun i X => by
      rw [hG, List.append_assoc, List.set_append, if_neg (by omega), Nat.sub_self, List.cons_append, List.set_cons_zero, List.replicate_succ']
    have Gl : ∀ i, (G i).length = P.length + 1 + i := fun i => by rw [hG]; simp; omega
    have Gn : G (n + 1) = Lv P n (fun _ => []) [] := by
      rw [hG, hRw]; unfold Lv liveRow
      simp only [Nat.sub_self, List.replicate_zero, List.append_nil]
      congr 2
      rw [show (fun j : Nat => Blk.map (stand [])) = fun _ => Blk.map [] from rfl, List.map_const']; simp
    rw [← Gn, G0]
    clear hRw
    have hG := Hid.mk hG
    have Gn := Hid.mk Gn
    have R0 := Rl 0 (by omega)
    simp -dsimp [g1, g4, g5, g6, Gr0, R0]
    have Rl := Hid.mk Rl
    refine loop_rule (hn := fun _ => false) (od := fun _ => none) (fun (i : Nat) f M => M = G i ∧ f 1 = .bp H.length 0 ∧ f 4 = .hm a ∧ f 5 = I n ∧ f 6 = .hs P.length 0 (n + 1) (n + 1) ∧ f 33 = I ((n + 1 : Nat) : Int) ∧ f 34 = I i ∧ i ≤ n + 1) (fun i => n + 1 - i) (by kernel_rfl) 0 (by simp [g1, g4, g5, g6]) ?_
    clear g g1 g4 g5 g6
    rintro i g _ ⟨rfl, g1, g4, g5, g6, g33, g34, hi⟩
    have hRi := Rl.out i hi
    simp -dsimp [g33, g34]
    refine condVW_introD (fun hlt => ?_) (fun hlt => ?_)
    · have hlt' : i < n + 1 := by omega
      simp -dsimp [g1, g4, g5, g6, g33, g34, Gr, hRi, Gl, Gs, Rg i hlt', Rs i hlt']
      refine ⟨by omega, ?_⟩
      simp -dsimp [g1, g4, g5, g6, g33, g34, Gr, hRi, Gl, Gs, Rg i hlt', Rs i hlt']
      have hast := astore_one (x := .hm (P.length + 1 + i)) (Gr i [Blk.map []]) hRi (Rg i hlt')
      simp -dsimp [g1, g4, g5, g6, g33, g34, hast, Gs, Rs i hlt']
      exact ⟨i + 1, by omega, by rw [hG.out], wrapS (by omega), by omega⟩
    · simp -dsimp [g1, g4, g5, g6]
      have : i = n + 1 := by omega
      rw [this, Gn.out]
  clear g g1 g4 g5 g6
  rintro g _ ⟨rfl, g1, g4, g5, g6⟩
  -- what is told at the end
  have lr := fun S L => lv_row P n S L
  have lb := fun S L => lv_old hbP n S L
  have lm := fun S L => lv_old hm n S L
  have rl := liveRow_len P.length (n + 1)
  refine awp_cut (fun _ => false) (fun _ => none) (fun f M => (∃ S, M = Lv P n S [] ∧ GoodS l S) ∧ f 1 = .bp H.length 0 ∧ f 4 = .hm a ∧ f 5 = I n ∧ f 6 = .hs P.length 0 (n + 1) (n + 1)) (by kernel_rfl) ?_ ?_
  · simp -dsimp [g1, g4, g5, g6, lb]
    refine loop_rule (hn := fun _ => false) (od := fun _ => none) (fun (i : Nat) f M => RetI l P n i M ∧ f 1 = .bp H.length 0 ∧ f 4 = .hm a ∧ f 5 = I n ∧ f 6 = .hs P.length 0 (n + 1) (n + 1) ∧ f 43 = Int.sl l.rets ∧ f 44 = I l.rets.length ∧ f 45 = I i ∧ i ≤ l.rets.length) (fun i => l.rets.length - i) (by kernel_rfl) 0 ⟨⟨_, rfl, fun _ _ => List.nodup_nil, fun _ _ _ h => by simp at h, fun _ h => by simp at h⟩, by simp [g1, g4, g5, g6]⟩ ?_
    clear g g1 g4 g5 g6
    rintro i g _ ⟨⟨S, rfl, s1, s2, s3⟩, g1, g4, g5, g6, g43, g44, g45, hi⟩
    simp -dsimp [g43, g44, g45]
    refine condVW_introD (fun hlt => ?_) (fun hlt => ?_)
    · have hlt' : i < l.rets.length := by omega
      have gv := List.getElem?_eq_getElem hlt'
      obtain ⟨v, hv⟩ : ∃ v, v = l.rets[i] := ⟨_, rfl⟩
      rw [← hv] at gv
      have lc := fun S L => lv_cells P (Nat.le_refl n) S L
      simp -dsimp [g1, g4, g5, g6, g43, g44, g45, gv, lr, rl]
      refine ⟨by omega, ?_⟩
      have e1 := lv_es P (Nat.le_refl n) S []
      have e2 := stand_put v (S n)
      have e3 := lv_set P (Nat.le_refl n) S [] (putS v (S n))
      simp -dsimp [g1, g4, g5, g6, g43, g44, g45, gv, lc, e1, e2, e3]
      refine ⟨i + 1, by omega, ⟨_, rfl, fun j hj => ?_, fun j hj w hw => ?_, fun w hw => ?_⟩, wrapS (by omega), by omega⟩
      · by_cases e : j = n
        · subst e; rw [updS_same]; exact putS_nodup (s1 j hj)
        · rw [updS_ne _ _ e]; exact s1 j hj
      · by_cases e : j = n
        · rw [e, updS_same, putS_mem] at hw
          rcases hw with hw | rfl
          · exact ⟨e, (s2 n (Nat.le_refl _) w hw).2⟩
          · exact ⟨e, List.mem_of_getElem? gv⟩
        · rw [updS_ne _ _ e] at hw; exact s2 j hj w hw
      · rw [updS_same, putS_mem]
        rw [List.take_add_one, gv] at hw
        rcases List.mem_append.1 hw with hw | hw
        · exact .inl (s3 w hw)
        · right; simpa using hw
    · simp -dsimp [g1, g4, g5, g6]
      refine ⟨S, rfl, fun j hj => s1 j (by have := hn2.out; omega), fun j hj w hw => ?_, fun w hw => ?_⟩
      · obtain ⟨e, hr⟩ := s2 j (by have := hn2.out; omega) w hw
        rw [e, hn2.out]; exact .told hr
      · rw [← hn2.out]; exact s3 w (by rw [List.take_of_length_le (by omega)]; exact hw)
  clear g g1 g4 g5 g6
  rintro g _ ⟨⟨S0, rfl, hS0⟩, g1, g4, g5, g6⟩
  refine awp_cut (fun _ => false) (fun _ => none) (fun f M => Lv P n S0 [] = M ∧ f 1 = .bp H.length 0 ∧ f 4 = .hm a ∧ f 5 = I n ∧ f 6 = .hs P.length 0 (n + 1) (n + 1)) (by kernel_rfl) ?_ ?_
  · simp -dsimp [g1, g4, g5, g6]
  clear g g1 g4 g5 g6
  rintro g _ ⟨rfl, g1, g4, g5, g6⟩
  -- rounds
  refine awp_cutA (fun f M => (∃ S L, M = Lv P n S L ∧ GoodS l S ∧ ∀ i x, l.code[i]? = some x → ClosedAt l S i x) ∧ f 1 = .bp H.length 0 ∧ f 5 = I n ∧ f 6 = .hs P.length 0 (n + 1) (n + 1)) ?_ ?_
  · refine awp_block ?_
    refine awp_loopI (fun (k : Nat) f M => (∃ S L, M = Lv P n S L ∧ GoodS l S ∧ tot n S + k = (n + 1) * l.vars.toNat) ∧ f 1 = .bp H.length 0 ∧ f 4 = .hm a ∧ f 5 = I n ∧ f 6 = .hs P.length 0 (n + 1) (n + 1)) (fun k => k) ((n + 1) * l.vars.toNat - tot n S0)
      ⟨⟨S0, [], rfl, hS0, by have := hS0.tot_le ho; rw [← hn2.out] at this; omega⟩, g1, g4, g5, g6⟩ ?_
    clear g g1 g4 g5 g6 hS0 S0
    rintro k g _ ⟨⟨S0, L0, rfl, hS0, hk⟩, g1, g4, g5, g6⟩
    refine awp_block ?_
    refine awp_cut (fun _ => false) (fun _ => none) (fun f M => Lv P n S0 L0 = M ∧ f 1 = .bp H.length 0 ∧ f 4 = .hm a ∧ f 5 = I n ∧ f 6 = .hs P.length 0 (n + 1) (n + 1) ∧ f 10 = Bo false) (by kernel_rfl) ?_ ?_
    · simp -dsimp [g1, g4, g5, g6]
    clear g g1 g4 g5 g6
    rintro g _ ⟨rfl, g1, g4, g5, g6, g10⟩
    -- one round
    refine awp_cutA (fun f M => LiveI l P n S0 0 (f 10) M ∧ f 1 = .bp H.length 0 ∧ f 4 = .hm a ∧ f 5 = I n ∧ f 6 = .hs P.length 0 (n + 1) (n + 1)) ?_ ?_
    · refine awp_cut (fun _ => false) (fun _ => none) (fun f M => Lv P n S0 L0 = M ∧ f 1 = .bp H.length 0 ∧ f 4 = .hm a ∧ f 5 = I n ∧ f 6 = .hs P.length 0 (n + 1) (n + 1) ∧ f 10 = Bo false ∧ f 11 = I ((n : Int) - 1)) (by kernel_rfl) ?_ ?_
      · have hw : IntKind.i64.wrap ((n : Int) - 1) = (n : Int) - 1 := by unfold IntKind.wrap; simp [IntKind.bits, IntKind.signed]; omega
        simp -dsimp [g1, g4, g5, g6, g10, hw]
      clear g g1 g4 g5 g6 g10
      rintro g _ ⟨rfl, g1, g4, g5, g6, g10, g11⟩
      refine awp_block ?_
      refine awp_loopI (fun (m : Nat) f M => LiveI l P n S0 m (f 10) M ∧ f 1 = .bp H.length 0 ∧ f 4 = .hm a ∧ f 5 = I n ∧ f 6 = .hs P.length 0 (n + 1) (n + 1) ∧ f 11 = I ((m : Int) - 1) ∧ m ≤ n) (fun m => m) n
        ⟨⟨S0, L0, false, rfl, hS0, Nat.le_refl _, fun h => (by cases h), g10, fun _ j x hj hx => by have := (List.getElem?_eq_some_iff.1 hx).1; have := hn2.out; omega⟩, g1, g4, g5, g6, g11, Nat.le_refl _⟩ ?_
      clear g g1 g4 g5 g6 g10 g11 hS0 hk L0
      rintro m g _ ⟨⟨S1, L1, c1, rfl, hS1, ht1, hc1, g10, hcl1⟩, g1, g4, g5, g6, g11, hm1⟩
      refine awp_cut (fun _ => false) (fun _ => none) (fun f M => Lv P n S1 L1 = M ∧ f 1 = .bp H.length 0 ∧ f 4 = .hm a ∧ f 5 = I n ∧ f 6 = .hs P.length 0 (n + 1) (n + 1) ∧ f 10 = Bo c1 ∧ f 11 = I ((m : Int) - 1) ∧ 0 < m) (by kernel_rfl) ?_ ?_
      · simp -dsimp [g1, g4, g5, g6, g10, g11]
        refine condVW_introD (fun hlt => ?_) (fun hlt => ?_)
        · simp -dsimp [g1, g4, g5, g6, g10, g11]
          omega
        · simp -dsimp [g1, g4, g5, g6, g10, g11]
          obtain rfl : m = 0 := by omega
          exact ⟨S1, L1, c1, rfl, hS1, ht1, hc1, rfl, hcl1⟩
      clear g g1 g4 g5 g6 g10 g11
      rintro g _ ⟨rfl, g1, g4, g5, g6, g10, g11, hm0⟩
      obtain ⟨i, rfl⟩ : ∃ i, m = i + 1 := ⟨m - 1, by omega⟩
      have ei : ((i + 1 : Nat) : Int) - 1 = (i : Int) := by omega
      rw [ei] at g11
      obtain ⟨x, hx⟩ : ∃ x, l.code[i]? = some x := ⟨_, List.getElem?_eq_getElem (by omega)⟩
      have hin : i < l.code.length := (List.getElem?_eq_some_iff.1 hx).1
      have hdn : i ≤ n := by omega
      refine awp_cutA (fun f M => StI l P n S0 S1 c1 (ClosedAt l S1 i x) (f 10) M ∧ f 1 = .bp H.length 0 ∧ f 4 = .hm a ∧ f 5 = I n ∧ f 6 = .hs P.length 0 (n + 1) (n + 1) ∧ f 11 = I i) ?_ ?_
      rotate_left
      · clear g g1 g4 g5 g6 g10 g11
        rintro g M ⟨⟨S, L, c, rfl, hS, ht, hc, g10, hcl⟩, g1, g4, g5, g6, g11⟩
        have hw : IntKind.i64.wrap ((i : Int) - 1) = (i : Int) - 1 := wrapI (by omega) (by omega)
        refine awp_all (fun _ => false) (fun _ => none) (by kernel_rfl) ?_
        simp -dsimp [g1, g4, g5, g6, g10, g11, hw]
        refine ⟨i, by omega, ⟨S, L, c, rfl, hS, ht, hc, rfl, fun h j y hj hy => ?_⟩, rfl, by omega⟩
        obtain ⟨q1, q2, q3⟩ := hcl h
        by_cases e : j = i
        · subst e
          rw [hx, Option.some.injEq] at hy
          rw [q2, ← hy]; exact q3
        · rw [q2]; exact hcl1 q1 j y (by omega) hy
      refine awp_block ?_
      have cu := fun H => uses_ok x H
      simp only [Line.cells] at cu
      refine awp_cut (fun _ => false) (fun _ => none) (fun f M => Lv P n S1 L1 = M ∧ f 1 = .bp H.length 0 ∧ f 4 = .hm a ∧ f 5 = I n ∧ f 6 = .hs P.length 0 (n + 1) (n + 1) ∧ f 10 = Bo c1 ∧ f 11 = I i ∧ f 12 = Int.sl x.uses ∧ f 13 = Int.sl x.defs) (by kernel_rfl) ?_ ?_
      · simp -dsimp [g1, g4, g5, g6, g10, g11, lb, hx]
        refine acallsW_det (cu _) ?_
        simp -dsimp [g1, g4, g5, g6, g10, g11, lb, hx]
      clear g g1 g4 g5 g6 g10 g11
      rintro g _ ⟨rfl, g1, g4, g5, g6, g10, g11, g12, g13⟩
      have ul := uses_len x
      have dl := defs_len x
      have cn := fun H h => next_ok l ho (by omega) i a hin H h
      simp only [Linear.cells] at cn
      refine awp_cutA (fun f M => StI l P n S0 S1 c1 (KsI l i x S1 (nxt l i).length) (f 10) M ∧ f 1 = .bp H.length 0 ∧ f 4 = .hm a ∧ f 5 = I n ∧ f 6 = .hs P.length 0 (n + 1) (n + 1) ∧ f 11 = I i ∧ f 12 = Int.sl x.uses) ?_ ?_
      · refine awp_cut (fun _ => false) (fun _ => none) (fun f M => Lv P n S1 L1 = M ∧ f 1 = .bp H.length 0 ∧ f 4 = .hm a ∧ f 5 = I n ∧ f 6 = .hs P.length 0 (n + 1) (n + 1) ∧ f 10 = Bo c1 ∧ f 11 = I i ∧ f 12 = Int.sl x.uses ∧ f 13 = Int.sl x.defs ∧ f 74 = Int.sl (nxt l i) ∧ f 75 = I (nxt l i).length ∧ f 76 = I 0) (by kernel_rfl) ?_ ?_
        · simp -dsimp [g1, g4, g5, g6, g10, g11, g12, g13, lb]
          refine acallsW_det (cn _ (lm _ _)) ?_
          simp -dsimp [g1, g4, g5, g6, g10, g11, g12, g13]
        clear g g1 g4 g5 g6 g10 g11 g12 g13
        rintro g _ ⟨rfl, g1, g4, g5, g6, g10, g11, g12, g13, g74, g75, g76⟩
        refine awp_block ?_
        refine awp_loopI (fun (q : Nat) f M => StI l P n S0 S1 c1 (KsI l i x S1 q) (f 10) M ∧ f 1 = .bp H.length 0 ∧ f 4 = .hm a ∧ f 5 = I n ∧ f 6 = .hs P.length 0 (n + 1) (n + 1) ∧ f 11 = I i ∧ f 12 = Int.sl x.uses ∧ f 13 = Int.sl x.defs ∧ f 74 = Int.sl (nxt l i) ∧ f 75 = I (nxt l i).length ∧ f 76 = I q ∧ q ≤ (nxt l i).length) (fun q => (nxt l i).length - q) 0
          ⟨⟨S1, L1, c1, rfl, hS1, ht1, hc1, g10, fun h => ⟨h, rfl, fun k hk => by simp at hk⟩⟩, g1, g4, g5, g6, g11, g12, g13, g74, g75, g76, Nat.zero_le _⟩ ?_
        clear g g1 g4 g5 g6 g10 g11 g12 g13 g74 g75 g76 cn cu
        rintro q g M ⟨hst, g1, g4, g5, g6, g11, g12, g13, g74, g75, g76, hq⟩
        refine awp_cut (fun _ => false) (fun _ => none) (fun f M => StI l P n S0 S1 c1 (KsI l i x S1 q) (f 10) M ∧ f 1 = .bp H.length 0 ∧ f 4 = .hm a ∧ f 5 = I n ∧ f 6 = .hs P.length 0 (n + 1) (n + 1) ∧ f 11 = I i ∧ f 12 = Int.sl x.uses ∧ f 13 = Int.sl x.defs ∧ f 74 = Int.sl (nxt l i) ∧ f 75 = I (nxt l i).length ∧ f 76 = I q ∧ f 77 = Bo (decide ((q : Int) < (nxt l i).length))) (by kernel_rfl) ?_ ?_
        · simp -dsimp [g1, g4, g5, g6, g11, g12, g13, g74, g75, g76, hst]
        clear g1 g4 g5 g6 g11 g12 g13 g74 g75 g76 hst M g
        rintro g M ⟨hst, g1, g4, g5, g6, g11, g12, g13, g74, g75, g76, g77⟩
        refine awp_cut (fun _ => false) (fun _ => none) (fun f M => StI l P n S0 S1 c1 (KsI l i x S1 q) (f 10) M ∧ f 1 = .bp H.length 0 ∧ f 4 = .hm a ∧ f 5 = I n ∧ f 6 = .hs P.length 0 (n + 1) (n + 1) ∧ f 11 = I i ∧ f 12 = Int.sl x.uses ∧ f 13 = Int.sl x.defs ∧ f 74 = Int.sl (nxt l i) ∧ f 75 = I (nxt l i).length ∧ f 76 = I q ∧ q < (nxt l i).length) (by kernel_rfl) ?_ ?_
        · simp -dsimp [g77]
          refine condVW_introD (fun hlt => ?_) (fun hlt => ?_)
          · simp -dsimp [g1, g4, g5, g6, g11, g12, g13, g74, g75, g76, hst]
            omega
          · have : q = (nxt l i).length := by omega
            subst this
            simp -dsimp [g1, g4, g5, g6, g11, g12, g13, g74, g75, g76, hst]
        clear g1 g4 g5 g6 g11 g12 g13 g74 g75 g76 g77 hst M g hq
        rintro g M ⟨hst, g1, g4, g5, g6, g11, g12, g13, g74, g75, g76, hq⟩
        refine awp_cutA (fun f M => StI l P n S0 S1 c1 (KsI l i x S1 (q + 1)) (f 10) M ∧ f 1 = .bp H.length 0 ∧ f 4 = .hm a ∧ f 5 = I n ∧ f 6 = .hs P.length 0 (n + 1) (n + 1) ∧ f 11 = I i ∧ f 12 = Int.sl x.uses ∧ f 13 = Int.sl x.defs ∧ f 74 = Int.sl (nxt l i) ∧ f 75 = I (nxt l i).length ∧ f 76 = I q) ?_ ?_
        rotate_left
        · clear g1 g4 g5 g6 g11 g12 g13 g74 g75 g76 hst M g
          rintro g M ⟨hst, g1, g4, g5, g6, g11, g12, g13, g74, g75, g76⟩
          refine awp_all (fun _ => false) (fun _ => none) (by kernel_rfl) ?_
          simp -dsimp [g1, g4, g5, g6, g11, g12, g13, g74, g75, g76]
          exact ⟨q + 1, by omega, hst, wrapS (by have := nxt_len l i; omega), by omega⟩
        obtain ⟨S2, L2, c2, rfl, hS2, ht2, hc2, g10, hcl2⟩ := hst
        refine awp_block ?_
        have hgk := List.getElem?_eq_getElem hq
        have hkm : (nxt l i)[q] ∈ nxt l i := List.getElem_mem hq
        have hki := nxt_in ho hkm
        have hkn := nxt_ne ho hkm
        have htk : (nxt l i).take (q + 1) = (nxt l i).take q ++ [(nxt l i)[q]] := List.take_succ_eq_append_getElem hq
        obtain ⟨kz, hkz⟩ : ∃ kz, kz = (nxt l i)[q] := ⟨_, rfl⟩
        rw [← hkz] at hgk hkm hki hkn htk
        clear hkz
        obtain ⟨k, rfl⟩ : ∃ k : Nat, kz = k := ⟨kz.toNat, by omega⟩
        have hkn' : k ≤ n := by omega
        have hkne : k ≠ i := by omega
        refine awp_cut (fun _ => false) (fun _ => none) (fun f M => Lv P n S2 L2 = M ∧ f 1 = .bp H.length 0 ∧ f 4 = .hm a ∧ f 5 = I n ∧ f 6 = .hs P.length 0 (n + 1) (n + 1) ∧ f 10 = Bo c2 ∧ f 11 = I i ∧ f 12 = Int.sl x.uses ∧ f 13 = Int.sl x.defs ∧ f 74 = Int.sl (nxt l i) ∧ f 75 = I (nxt l i).length ∧ f 76 = I q ∧ f 15 = I k) (by kernel_rfl) ?_ ?_
        · simp -dsimp [g1, g4, g5, g6, g10, g11, g12, g13, g74, g75, g76, hgk]
        clear g1 g4 g5 g6 g10 g11 g12 g13 g74 g75 g76 g
        rintro g _ ⟨rfl, g1, g4, g5, g6, g10, g11, g12, g13, g74, g75, g76, g15⟩
        obtain ⟨it, hit⟩ : ∃ it, it = P.length + 1 + (n + 1) + L2.length := ⟨_, rfl⟩
        refine awp_cut (fun _ => false) (fun _ => none) (fun f M => Lv P n S2 (L2 ++ [.it (some (P.length + 1 + k)) (S2 k).length []]) = M ∧ f 1 = .bp H.length 0 ∧ f 4 = .hm a ∧ f 5 = I n ∧ f 6 = .hs P.length 0 (n + 1) (n + 1) ∧ f 10 = Bo c2 ∧ f 11 = I i ∧ f 12 = Int.sl x.uses ∧ f 13 = Int.sl x.defs ∧ f 74 = Int.sl (nxt l i) ∧ f 75 = I (nxt l i).length ∧ f 76 = I q ∧ f 15 = I k ∧ f 84 = .hi it) (by kernel_rfl) ?_ ?_
        · have lc := fun S L => lv_cells P hkn' S L
          have le := fun S L => lv_es P hkn' S L
          have lln := lv_len P n S2 L2
          rw [← hit] at lln
          have la := fun X => lv_app P n S2 L2 X
          have sl := stand_len (S2 k)
          simp -dsimp [g1, g4, g5, g6, g10, g11, g12, g13, g74, g75, g76, g15, lr, rl]
          refine ⟨by omega, ?_⟩
          simp -dsimp [g1, g4, g5, g6, g10, g11, g12, g13, g74, g75, g76, g15, lc, le, lln, la, sl]
        clear g1 g4 g5 g6 g10 g11 g12 g13 g74 g75 g76 g15 g
        rintro g _ ⟨rfl, g1, g4, g5, g6, g10, g11, g12, g13, g74, g75, g76, g15, g84⟩
        obtain ⟨T, hT⟩ : ∃ T, T = S2 k := ⟨_, rfl⟩
        rw [← hT]
        refine awp_block ?_
        refine awp_loopI (fun (s : List Nat) f M => MapI l P n S0 S1 c1 (KsI l i x S1 q) i k x T L2 s (f 10) M ∧ f 1 = .bp H.length 0 ∧ f 4 = .hm a ∧ f 5 = I n ∧ f 6 = .hs P.length 0 (n + 1) (n + 1) ∧ f 11 = I i ∧ f 12 = Int.sl x.uses ∧ f 13 = Int.sl x.defs ∧ f 74 = Int.sl (nxt l i) ∧ f 75 = I (nxt l i).length ∧ f 76 = I q ∧ f 84 = .hi it ∧ s.Nodup ∧ ∀ j ∈ s, j < T.length) (fun s => T.length - s.length) []
          ⟨⟨S2, c2, rfl, hT.symm, hS2, ht2, hc2, g10, fun h => let ⟨a, b, c⟩ := hcl2 h; ⟨a, b, c, fun j hj => by cases hj⟩⟩, g1, g4, g5, g6, g11, g12, g13, g74, g75, g76, g84, List.nodup_nil, fun j hj => by cases hj⟩ ?_
        clear g g1 g4 g5 g6 g10 g11 g12 g13 g74 g75 g76 g15 g84 hS2 ht2 hc2 hcl2 hT S2 c2
        rintro s g _ ⟨⟨S2, c2, rfl, hT, hS2, ht2, hc2, g10, hcl2⟩, g1, g4, g5, g6, g11, g12, g13, g74, g75, g76, g84, hs1, hs2⟩
        have ccon := fun v H => int_contains x.defs v (by omega) H
        simp only [any_has] at ccon
        have mk := fun S s => lv_map P hkn' S (L2 ++ [.it (some (P.length + 1 + k)) T.length s])
        have jk := fun S s => lv_junk P n S L2 [] (.it (some (P.length + 1 + k)) T.length s)
        have js := fun S s c => lv_junkset P n S L2 [] (.it (some (P.length + 1 + k)) T.length s) c
        rw [← hit] at jk js
        have sl : (stand (S2 k)).length = T.length := by rw [stand_len, hT]
        refine awp_all (fun _ => false) (fun _ => none) (by kernel_rfl) ?_
        simp -dsimp [g84]
        refine nextVW_intro (jk S2 s) (mk S2 s) sl (fun j p hj hp => ?_) (fun hall => ?_)
        · have hp' := hp
          simp only [stand, hT, List.getElem?_map] at hp'
          obtain ⟨v, hv, rfl⟩ := Option.map_eq_some_iff.1 hp'
          have hjl : j < T.length := (List.getElem?_eq_some_iff.1 hv).1
          rw [js]
          have hlt := nodup_less hs1 hs2 hj hjl
          obtain ⟨q1, q2⟩ := nodup_snoc hs1 hs2 hj hjl
          have hs1 := Hid.mk hs1
          have hs2 := Hid.mk hs2
          simp -dsimp [g84]
          refine entryVW_intro (jk S2 (s ++ [j])) (mk S2 (s ++ [j])) sl hp ?_
          simp -dsimp [g1, g4, g5, g6, g10, g11, g12, g13, g74, g75, g76, g84]
          refine acallsW_det (ccon v _) ?_
          have hf := stand_find v (S2 i)
          have lci := fun S L => lv_cells P hdn S L
          have lei := fun S L => lv_es P hdn S L
          have rdone : (v ∉ x.defs → v ∈ S2 i) → ∃ y, T.length - y.length < T.length - s.length ∧ MapI l P n S0 S1 c1 (KsI l i x S1 q) i k x T L2 y (Bo c2) (Lv P n S2 (L2 ++ [.it (some (P.length + 1 + k)) T.length (s ++ [j])])) ∧ y.Nodup ∧ ∀ j ∈ y, j < T.length := fun hin => by
            refine ⟨s ++ [j], by simp; omega, ⟨S2, c2, rfl, hT, hS2, ht2, hc2, rfl, fun h => ?_⟩, q1, q2⟩
            obtain ⟨a1, a2, a3, a4⟩ := hcl2 h
            refine ⟨a1, a2, a3, fun j' hj' w hw hd => ?_⟩
            rcases List.mem_append.1 hj' with hj' | hj'
            · exact a4 j' hj' w hw hd
            · rw [List.mem_singleton] at hj'
              subst hj'
              rw [hv, Option.some.injEq] at hw
              subst hw
              rw [← a2]; exact hin hd
          replace rdone := Hid.mk rdone
          have hcl2 := Hid.mk hcl2
          have hc2 := Hid.mk hc2
          have hj := Hid.mk hj
          have hv := Hid.mk hv
          by_cases hd : v ∈ x.defs
          · simp -dsimp [g1, g4, g5, g6, g10, g11, g12, g13, g74, g75, g76, g84, hd]
            exact rdone.out (fun h => absurd hd h)
          simp -dsimp [g1, g4, g5, g6, g10, g11, g12, g13, g74, g75, g76, g84, hd, lr, rl]
          refine ⟨by omega, ?_⟩
          by_cases hvi : v ∈ S2 i
          · rw [if_pos hvi] at hf
            simp -dsimp [g1, g4, g5, g6, g10, g11, g12, g13, g74, g75, g76, g84, hd, lci, lei, hf]
            exact rdone.out (fun _ => hvi)
          · rw [if_neg hvi] at hf
            simp -dsimp [g1, g4, g5, g6, g10, g11, g12, g13, g74, g75, g76, g84, hd, lci, lei, hf, lr, rl]
            refine ⟨by omega, ?_⟩
            have hent := stand_ent v (S2 i) hvi
            have hmi := midx_stand v (S2 i) hvi
            have hsf := stand_fin v (S2 i)
            obtain ⟨N, hN⟩ : ∃ N, N = Lv P n S2 (L2 ++ [.it (some (P.length + 1 + k)) T.length (s ++ [j])]) := ⟨_, rfl⟩
            have eN : mapEs N (.hm (P.length + 1 + i)) = some (stand (S2 i)) := by rw [hN]; exact lei _ _
            have cN : cellsAt N (.rp P.length (n + 1) i 0) = some [.hm (P.length + 1 + i)] := by rw [hN]; exact lci _ _
            have eN2 : ∀ X, mapEs (N.set (P.length + 1 + i) (.map X)) (.hm (P.length + 1 + i)) = some X := fun X => by
              have hl : P.length + 1 + i < N.length := by rw [hN, lv_len]; omega
              simp [mapEs, hl]
            have sN : N.set (P.length + 1 + i) (.map (stand (S2 i ++ [v]))) = Lv P n (updS S2 i (S2 i ++ [v])) (L2 ++ [.it (some (P.length + 1 + k)) T.length (s ++ [j])]) := by rw [hN]; exact lv_set P hdn _ _ _
            have hsl := stand_len (S2 i)
            rw [← hN]
            simp -dsimp [g1, g4, g5, g6, g10, g11, g12, g13, g74, g75, g76, g84, cN, eN, hf, hent, hmi, eN2, hsl, hsf, sN]
            refine ⟨by omega, ?_⟩
            simp -dsimp [g1, g4, g5, g6, g10, g11, g12, g13, g74, g75, g76, g84, hsf, sN]
            have hvl : LiveAt l i v := .way hx hd hkm (hS2.live k (by omega) v (by rw [hT]; exact List.mem_of_getElem? hv.out))
            refine ⟨s ++ [j], by simp; omega, ⟨_, true, rfl, by rw [updS_ne _ _ hkne]; exact hT, hS2.add (by omega) hvi hvl, by rw [tot_add hdn]; omega, fun _ => by rw [tot_add hdn]; omega, rfl, fun h => by cases h⟩, q1, q2⟩
        · simp -dsimp [g1, g4, g5, g6, g10, g11, g12, g13, g74, g75, g76]
          refine ⟨S2, _, c2, rfl, hS2, ht2, hc2, rfl, fun h => ?_⟩
          obtain ⟨a1, a2, a3, a4⟩ := hcl2 h
          refine ⟨a1, a2, fun k' hk' v hv hd => ?_⟩
          rw [htk] at hk'
          rcases List.mem_append.1 hk' with hk' | hk'
          · exact a3 k' hk' v hv hd
          · rw [List.mem_singleton] at hk'
            subst hk'
            rw [Int.toNat_natCast, ← a2, hT] at hv
            obtain ⟨j, hj⟩ := List.mem_iff_getElem?.1 hv
            exact a4 j (hall j (List.getElem?_eq_some_iff.1 hj).1) v hj hd
      clear g g1 g4 g5 g6 g10 g11 g12 g13 cn cu dl
      rintro g M ⟨hst, g1, g4, g5, g6, g11, g12⟩
      refine awp_cut (fun _ => false) (fun _ => none) (fun f M => StI l P n S0 S1 c1 (KsI l i x S1 (nxt l i).length) (f 10) M ∧ f 1 = .bp H.length 0 ∧ f 4 = .hm a ∧ f 5 = I n ∧ f 6 = .hs P.length 0 (n + 1) (n + 1) ∧ f 11 = I i ∧ f 112 = Int.sl x.uses ∧ f 113 = I x.uses.length ∧ f 114 = I 0) (by kernel_rfl) ?_ ?_
      · simp -dsimp [g1, g4, g5, g6, g11, g12, hst]
      clear g1 g4 g5 g6 g11 g12 hst M g
      rintro g M ⟨hst, g1, g4, g5, g6, g11, g112, g113, g114⟩
      refine awp_block ?_
      refine awp_loopI (fun (q : Nat) f M => StI l P n S0 S1 c1 (KsI l i x S1 (nxt l i).length ∧ ∀ v ∈ x.uses.take q, v ∈ S1 i) (f 10) M ∧ f 1 = .bp H.length 0 ∧ f 4 = .hm a ∧ f 5 = I n ∧ f 6 = .hs P.length 0 (n + 1) (n + 1) ∧ f 11 = I i ∧ f 112 = Int.sl x.uses ∧ f 113 = I x.uses.length ∧ f 114 = I q ∧ q ≤ x.uses.length) (fun q => x.uses.length - q) 0
        ⟨hst.weak fun h => ⟨h, fun v hv => by simp at hv⟩, g1, g4, g5, g6, g11, g112, g113, g114, Nat.zero_le _⟩ ?_
      clear g1 g4 g5 g6 g11 g112 g113 g114 hst M g
      rintro q g _ ⟨⟨S2, L2, c2, rfl, hS2, ht2, hc2, g10, hcl2⟩, g1, g4, g5, g6, g11, g112, g113, g114, hq⟩
      refine awp_all (fun _ => false) (fun _ => none) (by kernel_rfl) ?_
      have lci := fun S L => lv_cells P hdn S L
      have lei := fun S L => lv_es P hdn S L
      simp -dsimp [g113, g114]
      refine condVW_introD (fun hlt => ?_) (fun hlt => ?_)
      · have hlt' : q < x.uses.length := by omega
        have hgk := List.getElem?_eq_getElem hlt'
        have htk : x.uses.take (q + 1) = x.uses.take q ++ [x.uses[q]] := List.take_succ_eq_append_getElem hlt'
        have hvm : x.uses[q] ∈ x.uses := List.getElem_mem hlt'
        obtain ⟨v, hv⟩ : ∃ v, v = x.uses[q] := ⟨_, rfl⟩
        rw [← hv] at hgk htk hvm
        have hvr : v ∈ x.raw := (riseL_mem _ _).1 hvm
        have hf := stand_find v (S2 i)
        simp -dsimp [g1, g4, g5, g6, g10, g11, g112, g113, g114, hgk, lr, rl]
        refine ⟨by omega, ?_⟩
        by_cases hvi : v ∈ S2 i
        · rw [if_pos hvi] at hf
          simp -dsimp [g1, g4, g5, g6, g10, g11, g112, g113, g114, hgk, lci, lei, hf]
          refine ⟨q + 1, by omega, ⟨S2, L2, c2, rfl, hS2, ht2, hc2, rfl, fun h => ?_⟩, wrapS (by omega), by omega⟩
          obtain ⟨a1, a2, a3, a4⟩ := hcl2 h
          refine ⟨a1, a2, a3, fun w hw => ?_⟩
          rw [htk] at hw
          rcases List.mem_append.1 hw with hw | hw
          · exact a4 w hw
          · rw [List.mem_singleton] at hw; subst hw; rw [← a2]; exact hvi
        · rw [if_neg hvi] at hf
          have hent := stand_ent v (S2 i) hvi
          have hmi := midx_stand v (S2 i) hvi
          have hsf := stand_fin v (S2 i)
          simp -dsimp [g1, g4, g5, g6, g10, g11, g112, g113, g114, hgk, lci, lei, hf, lr, rl]
          refine ⟨by omega, ?_⟩
          obtain ⟨N, hN⟩ : ∃ N, N = Lv P n S2 L2 := ⟨_, rfl⟩
          have eN : mapEs N (.hm (P.length + 1 + i)) = some (stand (S2 i)) := by rw [hN]; exact lei _ _
          have cN : cellsAt N (.rp P.length (n + 1) i 0) = some [.hm (P.length + 1 + i)] := by rw [hN]; exact lci _ _
          have eN2 : ∀ X, mapEs (N.set (P.length + 1 + i) (.map X)) (.hm (P.length + 1 + i)) = some X := fun X => by
            have hl : P.length + 1 + i < N.length := by rw [hN, lv_len]; omega
            simp [mapEs, hl]
          have sN : N.set (P.length + 1 + i) (.map (stand (S2 i ++ [v]))) = Lv P n (updS S2 i (S2 i ++ [v])) L2 := by rw [hN]; exact lv_set P hdn _ _ _
          have hsl := stand_len (S2 i)
          rw [← hN]
          simp -dsimp [g1, g4, g5, g6, g10, g11, g112, g113, g114, cN, eN, hf, hent, hmi, eN2, hsl, hsf, sN]
          refine ⟨by omega, ?_⟩
          simp -dsimp [g1, g4, g5, g6, g10, g11, g112, g113, g114, hsf, sN]
          exact ⟨q + 1, by omega, ⟨_, L2, true, rfl, hS2.add (by omega) hvi (.read hx hvr), by rw [tot_add hdn]; omega, fun _ => by rw [tot_add hdn]; omega, rfl, fun h => by cases h⟩, wrapS (by omega), by omega⟩
      · simp -dsimp [g1, g4, g5, g6, g10, g11, g112, g113, g114]
        refine ⟨S2, L2, c2, rfl, hS2, ht2, hc2, rfl, fun h => ?_⟩
        obtain ⟨a1, a2, a3, a4⟩ := hcl2 h
        refine ⟨a1, a2, fun k hk v hv hd => a3 k (by rw [List.take_of_length_le (Nat.le_refl _)]; exact hk) v hv hd, fun v hv => a4 v ?_⟩
        rw [List.take_of_length_le (by omega)]
        exact (riseL_mem _ _).2 hv
    clear g g1 g4 g5 g6 g10
    rintro g _ ⟨⟨S, L, c, rfl, hS, ht, hc, g10, hcl⟩, g1, g4, g5, g6⟩
    refine awp_all (fun _ => false) (fun _ => none) (by kernel_rfl) ?_
    have hle := hS.tot_le ho
    rw [← hn2.out] at hle
    cases c with
    | true =>
      simp -dsimp [g1, g4, g5, g6, g10]
      have := hc rfl
      exact ⟨(n + 1) * l.vars.toNat - tot n S, by omega, ⟨S, ⟨L, rfl⟩, hS, by omega⟩⟩
    | false =>
      simp -dsimp [g1, g4, g5, g6, g10]
      exact ⟨S, ⟨L, rfl⟩, hS, fun i x hx => hcl rfl i x (by omega) hx⟩
  clear g g1 g4 g5 g6 hS0 S0
  rintro g _ ⟨⟨S, L, rfl, hS, hcl⟩, g1, g5, g6⟩
  obtain ⟨N, hN⟩ : ∃ N, N = Lv P n S L := ⟨_, rfl⟩
  have Nr := lr S L
  have Nc := fun j (hj : j ≤ n) => lv_cells P hj S L
  have Nm := fun j (hj : j ≤ n) => lv_map P hj S L
  have Nrise : ∀ i, i ≤ n → riseL (S i) = liveL l i := fun i hi => hS.rise ho hcl (by omega)
  have Nlen : ∀ i, i ≤ n → (S i).length ≤ 2^40 := fun i hi => by
    have h1 := nodup_lenI _ _ (hS.once i (by omega)) fun v hv => by
      have := (live_in ho (hS.live i (by omega) v hv)).1
      exact ⟨this.1, (by omega : v < (l.vars.toNat : Int))⟩
    have := ho.vars.2
    omega
  have Nnd : ∀ i, i ≤ n → (S i).Nodup := fun i hi => hS.once i (by omega)
  have hNH : ∃ X, N = H ++ X := by rw [hN]; unfold Lv; rw [hP.out, hB.out]; simp only [List.append_assoc]; exact ⟨_, rfl⟩
  rw [← hN] at Nr Nc Nm ⊢
  clear lr lb lm hN hS hcl
  refine awp_cut (fun _ => false) (fun _ => none) (fun f M => N = M ∧ f 5 = I n ∧ f 6 = .hs P.length 0 (n + 1) (n + 1) ∧ f 19 = nilS) (by kernel_rfl) ?_ ?_
  · simp -dsimp [g1, g5, g6]
  clear g g1 g5 g6
  rintro g _ ⟨rfl, g5, g6, g19⟩
  have hll : (lvL l).length = n := by unfold lvL; simp; omega
  have hlg : ∀ i, i < n → (lvL l)[i]? = some (liveL l i) := fun i hi => by unfold lvL; rw [List.getElem?_map, List.getElem?_range (by omega)]; rfl
  refine awp_cut (fun d => d == 149) (fun _ => none) (fun f M => ∃ h, f 19 = hrow h n ∧ OwnLs N M h (lvL l)) (by kernel_rfl) ?_ ?_
  · simp -dsimp [g5, g6, g19]
    refine loop_rule (hn := fun d => d == 149) (od := fun _ => none) (fun (i : Nat) f M => (∃ h, f 19 = hrow h i ∧ OwnLs N M h ((lvL l).take i)) ∧ f 5 = I n ∧ f 6 = .hs P.length 0 (n + 1) (n + 1) ∧ f 137 = I n ∧ f 138 = I i ∧ i ≤ n) (fun i => n - i) (by kernel_rfl) 0 ⟨⟨none, by simp [g19]; rfl, .nil1 _ _ _⟩, by simp [g5, g6]⟩ ?_
    clear g g5 g6 g19
    rintro i g M ⟨⟨h, g19, ow⟩, g5, g6, g137, g138, hi⟩
    simp -dsimp [g137, g138]
    refine condVW_introD (fun hlt => ?_) (fun hlt => ?_)
    · have hlt' : i < n := by omega
      have hgi := hlg i hlt'
      have r1 := ow.old Nr
      have r2 : cellsAt M (.rp P.length (n + 1) i 0) = some [.hm (P.length + 1 + i)] := by simp [cellsAt, r1, rl, liveRow_get (show i < n + 1 by omega)]
      have r3 := ow.old (Nm i (by omega))
      have ck := imkeys_ok (P.length + 1 + i) M
      have cs := isorted_give (S i) (Nnd i (by omega)) (Nlen i (by omega)) (P.length + 1 + i) M.length (M ++ [.box 111 [.hm (P.length + 1 + i)]]) (by simp) (get_app_old r3 _)
      rw [Nrise i (by omega)] at cs
      have hi' := Hid.mk hi
      simp -dsimp [g5, g6, g19, g137, g138, r1, rl]
      refine ⟨by omega, ?_⟩
      simp -dsimp [g5, g6, g19, g137, g138, r2]
      refine acallsW_of ck ?_
      rintro e _ ⟨rfl, rfl⟩
      simp -dsimp [g5, g6, g19, g137, g138]
      refine acallsW_det cs ?_
      simp -dsimp [g5, g6, g19, g137, g138]
      refine app_own (ow.app [.box 111 [.hm (P.length + 1 + i)]]) (by simp; omega) rfl rfl (by simp; omega) (by simp; omega) ?_
      intro h' M' ow' _
      have htk : (lvL l).take (i + 1) = (lvL l).take i ++ [liveL l i] := by rw [List.take_add_one, hgi]; rfl
      have ow2 : OwnLs N M' h' ((lvL l).take (i + 1)) := by unfold OwnLs; rw [htk, List.map_append]; exact ow'
      have hlen : (((lvL l).take i).map (fun x => [Int.sl x]) ++ [[Int.sl (liveL l i)]]).length = i + 1 := by simp; omega
      rw [show (AV.vs 1 (List.map (fun n => [I n]) (liveL l i))) = Int.sl (liveL l i) from rfl, hlen]
      simp -dsimp [g5, g6, g19, g137, g138]
      exact ⟨i + 1, by omega, ⟨h', rfl, ow2⟩, wrapS (by omega), by omega⟩
    · obtain rfl : i = n := by omega
      simp -dsimp [g19]
      exact ⟨h, rfl, by rw [List.take_of_length_le (by omega)] at ow; exact ow⟩
  clear g g5 g6 g19
  rintro g M ⟨h, g19, ow⟩
  refine awp_all (fun _ => false) (fun _ => none) (by kernel_rfl) ?_
  simp -dsimp [g19]
  obtain ⟨X, hX⟩ := hNH
  rw [hX] at ow
  exact tidy_rowAV hu.out ow.less (ints_frzB _) (by simp; omega) ⟨rfl, rfl⟩
theorem live_no (l : Linear) (hs : l.Sm) (hok : l.ok = false) (H : List Blk) : ACalls Try.prog 38 [.agg l.cells] H (fun e H' => e = .ret (.tup [nilS, I 2]) ∧ H' = H) := by
  refine acalls_tidy (acalls_of_awp Try.func38 rfl (by kernel_rfl) ?_)
  have c1 := linear_ok l (by have := hs.params; omega) (by have := hs.rets; omega) (by have := hs.code; omega)
  simp only [Linear.cells, hok] at c1
  obtain ⟨B, hB⟩ : ∃ B, B = H ++ [.box 25 l.cells] := ⟨_, rfl⟩
  have hb : B[H.length]? = some (.box 25 l.cells) := by rw [hB]; simp
  simp only [Linear.cells] at hb
  replace hB := Hid.mk hB
  refine awp_cut (fun _ => false) (fun _ => none) (fun f H' => B = H' ∧ f 1 = .bp H.length 0) (by kernel_rfl) ?_ ?_
  · simp -dsimp [hB.out]
  rintro g _ ⟨rfl, g1⟩
  refine awp_scope_r ?_
  refine awp_cut (fun _ => false) (fun _ => none) (fun f H' => False) (by kernel_rfl) ?_ ?_
  · simp -dsimp [g1, hb]
    refine acallsW_det (c1 _) ?_
    simp -dsimp [g1]
    rw [hB.out]
    exact tidy_same rfl ⟨rfl, rfl⟩
  · intro f M h; exact h.elim
end Go.Proofs
namespace Go.Proofs
open Go.Mu
end Go.Proofs
namespace Go.Proofs
open Go.Mu
end Go.Proofs
namespace Go.Proofs
open Go.Mu
structure Srch (l : Linear) (i : Nat) (v : Int) (sn : List Bool) (td : List Int) : Prop where
  len : sn.length = l.code.length + 1
  bnd : ∀ k ∈ td, 0 ≤ k ∧ k ≤ l.code.length
  sound : ∀ k ∈ td, LiveAt l k.toNat v → LiveAt l i v
  start : sn[i]? = some true ∨ (i : Int) ∈ td
  done : ∀ k : Nat, sn[k]? = some true → (k = l.code.length → v ∉ l.rets) ∧ ∀ x, l.code[k]? = some x → v ∉ x.raw ∧ (v ∉ x.defs → ∀ j ∈ nxt l k, sn[j.toNat]? = some true ∨ j ∈ td)
end Go.Proofs
namespace Go.Proofs
open Go.Mu
end Go.Proofs
namespace Go.Proofs
open Go.Mu
def SortR (H : List Blk) (E : List Int) (e : AE) (M : List Blk) : Prop := ∃ h, e = .ret (hrow h E.length) ∧ OwnI H M h E
end Go.Proofs
namespace Go.Proofs
open Go.Mu
end Go.Proofs
namespace Go.Proofs
open Go.Mu
theorem snoc_all {α : Type} {p : α → Prop} {l : List α} {n : Nat} {w : α} (hw : l[n]? = some w) (h : ∀ u ∈ l.take n, p u) (hp : p w) : ∀ u ∈ l.take (n + 1), p u := by
  intro u hu
  rw [List.take_add_one, hw] at hu
  rcases List.mem_append.1 hu with hu | hu
  · exact h u hu
  · have : u = w := by simpa using hu
    subst this; exact hp
theorem rg_at {regs : List Int} {l : Linear} (hl : (regs.length : Int) = l.vars) {v : Int} (h : 0 ≤ v ∧ v < l.vars) : regs[v.toNat]? = some (rg regs v) ∧ 0 ≤ v ∧ v < regs.length := ⟨rg_get h.1 (by omega), h.1, by omega⟩
structure RBeg (l : Linear) (regs : List Int) : Prop where
  len : (regs.length : Int) = l.vars
  rng : ∀ n ∈ regs, -1 ≤ n ∧ n < 11
  has : ∀ p ∈ l.params, 0 ≤ rg regs p
  once : ∀ (i k : Nat) (p q : Int), l.params[i]? = some p → l.params[k]? = some q → k ≠ i → rg regs q ≠ rg regs p
  live : ∀ v ∈ liveL l 0, v ∉ l.params → 0 ≤ rg regs v ∧ ∀ p ∈ l.params, rg regs p ≠ rg regs v
theorem beg_iff {l : Linear} (ho : LinOk l) {regs : List Int} : begOk l regs = true ↔ RBeg l regs := by
  unfold begOk
  simp only [Bool.and_eq_true, decide_eq_true_eq, List.all_eq_true, Bool.or_eq_true]
  constructor
  · rintro ⟨⟨⟨⟨⟨h1, h2⟩, h3⟩, h4⟩, h5⟩, h6⟩
    refine ⟨h1, h2, h3, fun i k p q hp hq hne he => ?_, fun v hv hvp => ⟨h4 v hv, fun p hp => ?_⟩⟩
    · have e1 : (l.params.map (rg regs))[i]? = some (rg regs p) := by rw [List.getElem?_map, hp]; rfl
      have e2 : (l.params.map (rg regs))[k]? = some (rg regs p) := by rw [List.getElem?_map, hq, ← he]; rfl
      obtain ⟨a1, a2⟩ := List.getElem?_eq_some_iff.1 e1
      obtain ⟨b1, b2⟩ := List.getElem?_eq_some_iff.1 e2
      exact hne ((List.getElem_inj h5).1 (b2.trans a2.symm))
    · rcases h6 v hv p hp with e | e
      · subst e; exact absurd hp hvp
      · exact e
  · rintro ⟨h1, h2, h3, h4, h5⟩
    refine ⟨⟨⟨⟨⟨h1, h2⟩, h3⟩, fun v hv => ?_⟩, ?_⟩, fun v hv p hp => ?_⟩
    · by_cases hvp : v ∈ l.params
      · exact h3 v hvp
      · exact (h5 v hv hvp).1
    · rw [List.nodup_iff_pairwise_ne, List.pairwise_iff_getElem]
      intro i k hi hk hik he
      simp only [List.length_map] at hi hk
      rw [List.getElem_map, List.getElem_map] at he
      exact h4 i k _ _ (List.getElem?_eq_getElem hi) (List.getElem?_eq_getElem hk) (by omega) he.symm
    · by_cases hvp : v ∈ l.params
      · by_cases e : p = v
        · exact .inl e
        · right
          obtain ⟨i, hi⟩ := List.mem_iff_getElem?.1 hvp
          obtain ⟨k, hk⟩ := List.mem_iff_getElem?.1 hp
          exact h4 i k v p hi hk (fun e2 => e (by rw [e2, hi, Option.some.injEq] at hk; exact hk.symm))
      · exact .inr ((h5 v hv hvp).2 p hp)
end Go.Proofs
namespace Go.Proofs
open Go.Mu
structure RRight (l : Linear) (regs : List Int) (i : Nat) (x : Line) : Prop where
  uses : ∀ v ∈ x.uses, 0 ≤ rg regs v
  defs : ∀ d ∈ x.defs, 0 ≤ rg regs d ∧ ∀ b ∈ behL l i, b ≠ d → rg regs b = rg regs d → x.ins.kind = 2 ∧ x.ins.a = b
theorem right_iff {l : Linear} {regs : List Int} {i : Nat} {x : Line} (hx : l.code[i]? = some x) : rightOk l regs i = true ↔ RRight l regs i x := by
  unfold rightOk
  rw [hx]
  simp only [Bool.and_eq_true, decide_eq_true_eq, List.all_eq_true, Bool.or_eq_true]
  constructor
  · rintro ⟨⟨h1, h2⟩, h3⟩
    refine ⟨h1, fun d hd => ⟨h2 d hd, fun b hb hne he => ?_⟩⟩
    rcases h3 d hd b hb with (e | e) | e
    · exact absurd e hne
    · exact e
    · exact absurd he e
  · rintro ⟨h1, h2⟩
    refine ⟨⟨h1, fun d hd => (h2 d hd).1⟩, fun d hd b hb => ?_⟩
    by_cases e1 : b = d
    · exact .inl (.inl e1)
    · by_cases e2 : rg regs b = rg regs d
      · exact .inl (.inr ((h2 d hd).2 b hb e1 e2))
      · exact .inr e2
end Go.Proofs
namespace Go.Proofs
open Go.Mu
end Go.Proofs
namespace Go.Proofs
open Go.Mu
abbrev ckB (l : Linear) (regs : List Int) (lv : AV) : Blk := .box 72 [I l.vars, Int.sl l.params, Int.sl l.rets, I l.frame, Line.sl l.code, Int.sl regs, lv]
abbrev wrongV (n : Int) : AV := .ifc 119 (.agg [I n])
def mustR (n : Int) (b : Bool) : AE := if b = true then .ret (.tup []) else .pan (wrongV n)
theorem cmust_ok (p : AV) (n : Int) (b : Bool) (H : List Blk) : ACalls Try.prog 86 [p, I n, Bo b] H (fun e H' => e = mustR n b ∧ H' = H) := by
  refine acalls_of_vc (hn := fun _ => false) (od := fun _ => none) Try.func86 rfl (by kernel_rfl) ?_
  cases b <;> simp -dsimp [mustR]
theorem chas1_ok (l : Linear) (regs : List Int) (lv : AV) (kp k tp : Nat) (v : Int) (hl : (regs.length : Int) = l.vars) (hv : 0 ≤ v ∧ v < l.vars) (H : List Blk) (hp : H[kp]? = some (.box tp [.bp k 0])) (hk : H[k]? = some (ckB l regs lv)) : ACalls Try.prog 117 [I v, .bp kp 0] H (fun e H' => e = .ret (Bo (decide (rg regs v < 0))) ∧ H' = H) := by
  refine acalls_of_vc (hn := fun _ => false) (od := fun _ => none) Try.func117 rfl (by kernel_rfl) ?_
  obtain ⟨r1, r2, r3⟩ := rg_at hl hv
  simp -dsimp [hp, hk]
  refine ⟨r2, ?_⟩
  simp -dsimp [hp, hk, r1]
theorem chas_ok (l : Linear) (regs : List Int) (lv : AV) (k : Nat) (vs : List Int) (hl : (regs.length : Int) = l.vars) (hv : ∀ v ∈ vs, 0 ≤ v ∧ v < l.vars) (hvl : vs.length ≤ 2^40) (H : List Blk) (hk : H[k]? = some (ckB l regs lv)) : ACalls Try.prog 87 [.bp k 0, Int.sl vs] H (fun e H' => e = .ret (Bo (vs.all fun v => decide (0 ≤ rg regs v))) ∧ H' = H) := by
  refine acalls_tidy (acalls_of_vc (hn := fun _ => false) (od := fun _ => none) Try.func87 rfl (by kernel_rfl) ?_)
  have hkl := lt_of_get hk
  have cf := int_containsF vs (fun v => decide (rg regs v < 0)) 117 [.bp H.length 0] (by kernel_rfl) hvl (H ++ [.box 70 [.bp k 0]]) (fun v hvm => chas1_ok l regs lv H.length k 70 v hl (hv v hvm) _ (by simp) (get_app_old hk _))
  have e : (vs.any fun v => decide (rg regs v < 0)) = !(vs.all fun v => decide (0 ≤ rg regs v)) := by
    rw [Bool.eq_iff_iff]
    simp only [List.any_eq_true, decide_eq_true_eq, Bool.not_eq_true', List.all_eq_false]
    exact ⟨fun ⟨x, hx, h⟩ => ⟨x, hx, by omega⟩, fun ⟨x, hx, h⟩ => ⟨x, hx, by omega⟩⟩
  rw [e] at cf
  simp -dsimp
  refine acallsW_det cf ?_
  simp -dsimp
  exact tidy_same rfl ⟨rfl, rfl⟩
theorem cahead_ok (l : Linear) (regs : List Int) (k : Nat) (i : Nat) (hi : i ≤ l.code.length) (H : List Blk) (hk : H[k]? = some (ckB l regs (Ints.sl (lvL l)))) : ACalls Try.prog 115 [.bp k 0, I i] H (fun e H' => e = .ret (Int.sl (if i = l.code.length then l.rets else liveL l i)) ∧ H' = H) := by
  refine acalls_of_vc (hn := fun _ => false) (od := fun _ => none) Try.func115 rfl (by kernel_rfl) ?_
  have hll : (lvL l).length = l.code.length := by unfold lvL; simp
  by_cases h : i = l.code.length
  · have hd : decide (l.code.length ≤ i) = true := decide_eq_true (by omega)
    rw [if_pos h]
    simp -dsimp [hk, hll, hd]
  · have hd : decide (l.code.length ≤ i) = false := decide_eq_false (by omega)
    have hg : (lvL l)[i]? = some (liveL l i) := by unfold lvL; rw [List.getElem?_map, List.getElem?_range (by omega)]; rfl
    rw [if_neg h]
    have hll := Hid.mk hll
    simp -dsimp [hk, hll.out, hd]
    simp -dsimp [hk, hg]
theorem cbeg1_ok (n : Int) (H : List Blk) : ACalls Try.prog 114 [I n] H (fun e H' => e = .ret (Bo (!(decide (-1 ≤ n) && decide (n < 11)))) ∧ H' = H) := by
  refine acalls_of_vc (hn := fun _ => false) (od := fun _ => none) Try.func114 rfl (by kernel_rfl) ?_
  by_cases h1 : n < -1
  · have d1 : decide (n < -1) = true := decide_eq_true h1
    have d2 : decide (-1 ≤ n) = false := decide_eq_false (by omega)
    simp -dsimp [d1, d2]
  · have d1 : decide (n < -1) = false := decide_eq_false h1
    have d2 : decide (-1 ≤ n) = true := decide_eq_true (by omega)
    have d3 : decide (11 ≤ n) = !decide (n < 11) := by rw [Bool.eq_iff_iff]; simp
    simp -dsimp [d1, d2, d3]
noncomputable def behRaw (l : Linear) (i : Nat) (x : Line) : List Int := if x.kind = 5 then l.rets else (nxt l i).flatMap fun k => if k.toNat = l.code.length then l.rets else liveL l k.toNat
theorem behRaw_mem {l : Linear} (ho : LinOk l) {i : Nat} {x : Line} (hx : l.code[i]? = some x) {v : Int} : v ∈ behRaw l i x ↔ v ∈ behL l i := by
  rw [behL_mem ho]
  unfold behRaw
  have hend : v ∈ l.rets ↔ LiveAt l l.code.length v := live_end.symm
  by_cases h5 : x.kind = 5
  · rw [if_pos h5]
    have : nxt l i = [(l.code.length : Int)] := by unfold nxt; rw [hx]; simp [h5]
    rw [this, hend]; simp
  · rw [if_neg h5, List.mem_flatMap]
    constructor
    · rintro ⟨k, hk, hv⟩
      refine ⟨k, hk, ?_⟩
      split at hv
      · rename_i e; rw [e]; exact hend.1 hv
      · exact (live_mem ho).1 hv
    · rintro ⟨k, hk, hv⟩
      refine ⟨k, hk, ?_⟩
      split
      · rename_i e; rw [e] at hv; exact hend.2 hv
      · exact (live_mem ho).2 hv
theorem behRaw_len (l : Linear) (hs : l.Sm) (ho : LinOk l) (i : Nat) (x : Line) (q : Nat) : (((nxt l i).take q).flatMap fun k => if k.toNat = l.code.length then l.rets else liveL l k.toNat).length ≤ 2^38 := by
  have h1 : ∀ (s : List Int), (s.flatMap fun k => if k.toNat = l.code.length then l.rets else liveL l k.toNat).length ≤ s.length * 2^36 := by
    intro s
    induction s with
    | nil => simp
    | cons a s ih =>
      have h2 : (if a.toNat = l.code.length then l.rets else liveL l a.toNat).length ≤ 2^36 := by
        split
        · exact hs.rets
        · have := liveL_len l a.toNat
          have := ho.vars
          omega
      rw [List.flatMap_cons, List.length_append, List.length_cons, Nat.succ_mul]
      omega
  have h3 := h1 ((nxt l i).take q)
  have h4 := nxt_len l i
  have h5 : ((nxt l i).take q).length ≤ 2 := by simp; omega
  have : ((nxt l i).take q).length * 2^36 ≤ 2 * 2^36 := Nat.mul_le_mul_right _ h5
  omega
theorem cbehind_ok (l : Linear) (hs : l.Sm) (hok : l.ok = true) (regs : List Int) (k : Nat) (i : Nat) (x : Line) (hx : l.code[i]? = some x) (H : List Blk) (hk : H[k]? = some (ckB l regs (Ints.sl (lvL l)))) : ACalls Try.prog 116 [.bp k 0, I i] H (fun e H' => e = .ret (Int.sl (behRaw l i x)) ∧ H' = H) := by
  have ho := ((ok_iff l).1 hok).1
  refine acalls_under fun hu _ => acalls_weakE (acalls_tidy (acalls_of_vc (hn := fun d => d == 44) (od := fun _ => none) Try.func116 rfl (by kernel_rfl) ?_))
  have hi : i < l.code.length := (List.getElem?_eq_some_iff.1 hx).1
  have hc := hs.code
  have cn := fun H => nexts_ok l hs hok i hi H
  simp only [Linear.cells] at cn
  have hi2 := Hid.mk hi
  have nl := nxt_len l i
  obtain ⟨E, hE⟩ : ∃ E, E = behRaw l i x := ⟨_, rfl⟩
  rw [← hE]
  unfold behRaw at hE
  by_cases h5 : x.kind = 5
  · have hkb : (x.kind == 5) = true := by simpa using h5
    rw [if_pos h5] at hE
    have hE := Hid.mk hE
    simp -dsimp [hk, hx, hkb]
    exact tidy_now rfl ⟨_, .refl _, by rw [hE.out], rfl⟩
  have hkb : (x.kind == 5) = false := by simpa using h5
  rw [if_neg h5] at hE
  have hE := Hid.mk hE
  simp -dsimp [hk, hx, hkb]
  refine acallsW_det (cn _) ?_
  simp -dsimp [hk, hx, hkb]
  refine loop_rule (hn := fun d => d == 44) (od := fun _ => none) (fun (q : Nat) f M => f 0 = .bp k 0 ∧ f 34 = Int.sl (nxt l i) ∧ f 35 = I (nxt l i).length ∧ f 36 = I q ∧ q ≤ (nxt l i).length ∧ ∃ h, f 7 = hrow h (((nxt l i).take q).flatMap fun k => if k.toNat = l.code.length then l.rets else liveL l k.toNat).length ∧ OwnI H M h (((nxt l i).take q).flatMap fun k => if k.toNat = l.code.length then l.rets else liveL l k.toNat)) (fun q => (nxt l i).length - q) (by kernel_rfl) 0 ⟨by simp, by simp, by simp, by simp, by omega, none, rfl, .nil1 _ _ _⟩ ?_
  rintro q f M ⟨f0, f34, f35, f36, hq, h, f7, ow⟩
  have r1 := ow.old hk
  simp -dsimp [f0, f34, f35, f36]
  refine condVW_introD (fun hlt => ?_) (fun hlt => ?_)
  · have hlt' : q < (nxt l i).length := by omega
    have hgk := List.getElem?_eq_getElem hlt'
    have hkm : (nxt l i)[q] ∈ nxt l i := List.getElem_mem hlt'
    have hki := nxt_in ho hkm
    have htk : (nxt l i).take (q + 1) = (nxt l i).take q ++ [(nxt l i)[q]] := List.take_succ_eq_append_getElem hlt'
    obtain ⟨kz, hkz⟩ : ∃ kz, kz = (nxt l i)[q] := ⟨_, rfl⟩
    rw [← hkz] at hgk hkm hki htk
    clear hkz
    obtain ⟨j, rfl⟩ : ∃ j : Nat, kz = j := ⟨kz.toNat, by omega⟩
    have ca := cahead_ok l regs k j (by omega) M r1
    have b0 := behRaw_len l hs ho i x q
    have b1 : (if j = l.code.length then l.rets else liveL l j).length ≤ 2^36 := by
      split
      · exact hs.rets
      · have := liveL_len l j
        have := ho.vars
        omega
    have hsucc : (((nxt l i).take (q + 1)).flatMap fun k => if k.toNat = l.code.length then l.rets else liveL l k.toNat) = (((nxt l i).take q).flatMap fun k => if k.toNat = l.code.length then l.rets else liveL l k.toNat) ++ (if j = l.code.length then l.rets else liveL l j) := by rw [htk]; simp
    obtain ⟨pr, hpr⟩ : ∃ pr, pr = ((nxt l i).take q).flatMap fun k => if k.toNat = l.code.length then l.rets else liveL l k.toNat := ⟨_, rfl⟩
    obtain ⟨ad, had⟩ : ∃ ad, ad = if j = l.code.length then l.rets else liveL l j := ⟨_, rfl⟩
    rw [← hpr, ← had] at hsucc
    rw [← hpr] at ow f7 b0
    rw [← had] at ca b1
    have hsucc := Hid.mk hsucc
    have hpr := Hid.mk hpr
    have had := Hid.mk had
    simp -dsimp [f0, f7, f34, f35, f36, hgk]
    refine acallsW_det ca ?_
    simp -dsimp [f0, f7, f34, f35, f36, hgk]
    refine app_own ow (by simp) rfl rfl (by simp; omega) (by simp; omega) ?_
    intro h' M' ow' _
    have ow2 : OwnI H M' h' (pr ++ ad) := by unfold OwnI; rw [List.map_append]; exact ow'
    have e : (pr.map (fun n => [I n]) ++ ad.map (fun n => [I n])).length = (pr ++ ad).length := by simp
    rw [e]
    rw [← hsucc.out] at ow2 ⊢
    simp -dsimp [f0, f34, f35, f36]
    exact ⟨q + 1, by omega, wrapS (by omega), by omega, h', rfl, ow2⟩
  · rw [List.take_of_length_le (by omega), ← hE.out] at ow f7
    simp -dsimp [f7]
    exact tidy_rowA hu ow (int_frzB _) (by simp) ⟨rfl, rfl⟩
end Go.Proofs
namespace Go.Proofs
open Go.Mu
def OfI (l : Linear) (regs : List Int) (i : Nat) (t : List (Int × Int)) : Prop := ∀ r p, ilook r t = some p ↔ p ∈ l.params.take i ∧ rg regs p = r
def OfM (l : Linear) (regs : List Int) (H : List Blk) (i : Nat) (M : List Blk) : Prop := ∃ t, M = H ++ [.map (atM t)] ∧ OfI l regs i t
theorem mustR_t (n : Int) : mustR n true = .ret (.tup []) := rfl
theorem mustR_f (n : Int) : mustR n false = .pan (wrongV n) := rfl
theorem cmust_to (p : AV) (n : Int) (b : Bool) (H : List Blk) : ACalls Try.prog 86 [p, I n, Bo b] H (fun e H' => e = mustR n b ∧ H = H') := (cmust_ok p n b H).mono fun e H' h => ⟨h.1, h.2.symm⟩
def BegR (l : Linear) (regs : List Int) (H : List Blk) (e : AE) (M : List Blk) : Prop := e = mustR (-1) (begOk l regs) ∧ ∃ L, M = H ++ L
theorem cbeg_ok (l : Linear) (hs : l.Sm) (hok : l.ok = true) (regs : List Int) (hrl : regs.length ≤ 2^36) (k : Nat) (H : List Blk) (hk : H[k]? = some (ckB l regs (Ints.sl (lvL l)))) : ACalls Try.prog 84 [.bp k 0] H (BegR l regs H) := by
  have ho := ((ok_iff l).1 hok).1
  refine acalls_of_vc (hn := fun d => d == 23) (od := fun _ => none) Try.func84 rfl (by kernel_rfl) ?_
  have hv := ho.vars
  have hp := hs.params
  have e23 : (fun d => d == 23 : Nat → Bool) 23 = true := rfl
  have cm := fun b H => cmust_to (.bp k 0) (-1) b H
  have hEQ := @beg_iff l ho regs
  obtain ⟨E, hE⟩ : ∃ E, E = begOk l regs := ⟨_, rfl⟩
  rw [← hE] at hEQ
  have yes : RBeg l regs → ∀ L, BegR l regs H (.ret (.tup [])) (H ++ L) := fun h L => ⟨by rw [← hE, hEQ.2 h]; rfl, L, rfl⟩
  have no : ¬ RBeg l regs → ∀ L, BegR l regs H (.pan (wrongV (-1))) (H ++ L) := fun h L => ⟨by
    have : E = false := by rw [Bool.eq_false_iff]; exact fun q => h (hEQ.1 q)
    rw [← hE, this]; rfl, L, rfl⟩
  have yes0 := fun h => yes h []
  have no0 := fun h => no h []
  rw [List.append_nil] at yes0 no0
  replace yes := Hid.mk yes
  replace no := Hid.mk no
  replace yes0 := Hid.mk yes0
  replace no0 := Hid.mk no0
  clear hEQ
  replace hE := Hid.mk hE
  simp -dsimp [hk]
  refine acallsW_of (cm _ _) ?_
  rintro e _ ⟨rfl, rfl⟩
  by_cases hlen : (regs.length : Int) = l.vars
  rotate_left
  · have hlb : ((regs.length : Int) == l.vars) = false := by simpa using hlen
    simp -dsimp [hlb, mustR_f]
    exact no0.out (fun h => hlen h.len)
  have hlb : ((regs.length : Int) == l.vars) = true := by simpa using hlen
  have hlen := Hid.mk hlen
  -- each is a register's number, or none
  have cf := fun H => int_containsF regs (fun n => !(decide (-1 ≤ n) && decide (n < 11))) 114 [] (by kernel_rfl) (by omega) H (fun n _ => cbeg1_ok n H)
  obtain ⟨R1, hR1⟩ : ∃ R1, R1 = regs.any fun n => !(decide (-1 ≤ n) && decide (n < 11)) := ⟨_, rfl⟩
  rw [← hR1] at cf
  simp -dsimp [hlb, mustR_t, hk]
  refine acallsW_det (cf _) ?_
  simp -dsimp [hk]
  refine acallsW_of (cm _ _) ?_
  rintro e _ ⟨rfl, rfl⟩
  cases R1
  rotate_left
  · simp -dsimp [mustR_f]
    refine no0.out (fun h => ?_)
    obtain ⟨n, hn, hb⟩ := List.any_eq_true.1 hR1.symm
    have := h.rng n hn
    simp at hb; omega
  have hrng : Hid (∀ n ∈ regs, -1 ≤ n ∧ n < 11) := ⟨fun n hn => by
    have := List.any_eq_false.1 hR1.symm n hn
    simpa using this⟩
  clear hR1 cf
  -- parameters have registers, and what is live
  have c1 := fun H h => chas_ok l regs (Ints.sl (lvL l)) k l.params hlen.out ho.params (by omega) H h
  have cah := cahead_ok l regs k 0 (by omega) H hk
  obtain ⟨li, hli⟩ : ∃ li, li = if 0 = l.code.length then l.rets else liveL l 0 := ⟨_, rfl⟩
  have hlm : ∀ v, v ∈ li ↔ v ∈ liveL l 0 := fun v => by
    rw [hli]
    split
    · rename_i h0
      rw [live_mem ho, h0]; exact live_end.symm
    · exact Iff.rfl
  have hlil : li.length ≤ 2^36 := by
    rw [hli]
    split
    · exact hs.rets
    · have := liveL_len l 0
      omega
  have hlin : ∀ v ∈ li, 0 ≤ v ∧ v < l.vars := fun v hv => ((liveL_mem l 0 v).1 ((hlm v).1 hv)).1
  rw [← hli] at cah
  have hliE := Hid.mk hli
  clear hli
  have c2 := fun H h => chas_ok l regs (Ints.sl (lvL l)) k li hlen.out hlin (by omega) H h
  have rgp := fun p hp => rg_at hlen.out (ho.params p hp)
  have rgl := fun v hv => rg_at hlen.out (hlin v hv)
  replace rgp := Hid.mk rgp
  replace rgl := Hid.mk rgl
  have hlm := Hid.mk hlm
  have hlin := Hid.mk hlin
  obtain ⟨P1, hP1⟩ : ∃ P1, P1 = l.params.all fun v => decide (0 ≤ rg regs v) := ⟨_, rfl⟩
  obtain ⟨P2, hP2⟩ : ∃ P2, P2 = li.all fun v => decide (0 ≤ rg regs v) := ⟨_, rfl⟩
  rw [← hP1] at c1
  rw [← hP2] at c2
  simp -dsimp [mustR_t, hk]
  refine acallsW_det (c1 _ hk) ?_
  cases P1
  · simp -dsimp [hk]
    refine acallsW_of (cm _ _) ?_
    rintro e _ ⟨rfl, rfl⟩
    simp -dsimp [mustR_f]
    refine no0.out (fun h => ?_)
    obtain ⟨p, hp, hb⟩ := List.all_eq_false.1 hP1.symm
    have := h.has p hp
    simp at hb; omega
  have hhas : Hid (∀ p ∈ l.params, 0 ≤ rg regs p) := ⟨fun p hp => by simpa using List.all_eq_true.1 hP1.symm p hp⟩
  clear hP1 c1
  simp -dsimp [hk]
  refine acallsW_det cah ?_
  simp -dsimp [hk]
  refine acallsW_det (c2 _ hk) ?_
  simp -dsimp [hk]
  refine acallsW_of (cm _ _) ?_
  rintro e _ ⟨rfl, rfl⟩
  cases P2
  · simp -dsimp [mustR_f]
    refine no0.out (fun h => ?_)
    obtain ⟨v, hv, hb⟩ := List.all_eq_false.1 hP2.symm
    have h2 : 0 ≤ rg regs v := by
      by_cases hvp : v ∈ l.params
      · exact h.has v hvp
      · exact (h.live v ((hlm.out v).1 hv) hvp).1
    simp at hb; omega
  have hlive : Hid (∀ v ∈ li, 0 ≤ rg regs v) := ⟨fun p hp => by simpa using List.all_eq_true.1 hP2.symm p hp⟩
  clear hP2 c2
  have hkL : ∀ X, (H ++ [X])[k]? = some (ckB l regs (Ints.sl (lvL l))) := fun X => get_app_old hk _
  simp -dsimp [mustR_t, hk, hkL]
  refine loop_rule (hn := fun d => d == 23) (od := fun _ => none) (fun (i : Nat) f M => OfM l regs H i M ∧ f 0 = .bp k 0 ∧ f 2 = .hm H.length ∧ f 52 = Int.sl l.params ∧ f 53 = I l.params.length ∧ f 54 = I i ∧ i ≤ l.params.length ∧ Hid ((l.params.take i).map (rg regs)).Nodup) (fun i => l.params.length - i) (by kernel_rfl) 0 (by refine ⟨⟨[], by simp [atM], fun r p => by simp [ilook]⟩, by simp, by simp, by simp, by simp, by simp, by omega, ⟨by simp⟩⟩) ?_
  rintro i f _ ⟨⟨t, rfl, hof⟩, f0, f2, f52, f53, f54, hi, hnd⟩
  have hme : ∀ t, mapEs (H ++ [.map (atM t)]) (.hm H.length) = some (atM t) := fun t => by simp [mapEs]
  have hset : ∀ X Y : Blk, (H ++ [X]).set H.length Y = H ++ [Y] := fun X Y => by simp
  simp -dsimp [f0, f2, f52, f53, f54]
  refine condVW_introD (fun hlt => ?_) (fun hlt => ?_)
  · have hlt' : i < l.params.length := by omega
    have hx := List.getElem?_eq_getElem hlt'
    have hm := List.getElem_mem hlt'
    have htk : l.params.take (i + 1) = l.params.take i ++ [l.params[i]] := List.take_succ_eq_append_getElem hlt'
    obtain ⟨p, hpp⟩ : ∃ p, p = l.params[i] := ⟨_, rfl⟩
    rw [← hpp] at hx hm htk
    clear hpp
    obtain ⟨r1, r2, r3⟩ := rgp.out p hm
    have hf := atM_find (rg regs p) t
    have hst := atM_set (rg regs p) p t
    have hm := Hid.mk hm
    simp -dsimp [f0, f2, f52, f53, f54, hx, hkL]
    refine ⟨r2, ?_⟩
    simp -dsimp [f0, f2, f52, f53, f54, hx, hkL, r1, hme, hf]
    refine acallsW_of (cm _ _) ?_
    rintro e _ ⟨rfl, rfl⟩
    cases hlk : ilook (rg regs p) t with
    | some q =>
      simp -dsimp [mustR_f]
      refine no.out (fun h => ?_) _
      obtain ⟨q1, q2⟩ := (hof _ _).1 hlk
      obtain ⟨j, hj⟩ := List.mem_iff_getElem?.1 q1
      have hji : j < i := by have := (List.getElem?_eq_some_iff.1 hj).1; simp at this; omega
      rw [List.getElem?_take_of_lt hji] at hj
      exact h.once i j p q hx hj (by omega) q2
    | none =>
      simp -dsimp [mustR_t, f0, f2, f52, f53, f54, hx, hkL]
      refine ⟨r2, ?_⟩
      simp -dsimp [f0, f2, f52, f53, f54, hx, hkL, r1, hme, hst, hset]
      refine ⟨i + 1, by omega, ⟨iset (rg regs p) p t, rfl, fun r q => ?_⟩, wrapS (by omega), by omega, ⟨?_⟩⟩
      · rw [ilook_set, htk]
        by_cases e : r = rg regs p
        · rw [if_pos e]
          constructor
          · intro h
            rw [Option.some.injEq] at h
            subst h; exact ⟨by simp, e.symm⟩
          · rintro ⟨h1, h2⟩
            rcases List.mem_append.1 h1 with h1 | h1
            · have := (hof r q).2 ⟨h1, h2⟩
              rw [e, hlk] at this; cases this
            · rw [List.mem_singleton] at h1; rw [h1]
        · rw [if_neg e, hof]
          constructor
          · exact fun h => ⟨List.mem_append_left _ h.1, h.2⟩
          · rintro ⟨h1, h2⟩
            rcases List.mem_append.1 h1 with h1 | h1
            · exact ⟨h1, h2⟩
            · rw [List.mem_singleton] at h1; subst h1; exact absurd h2.symm e
      · first | rw [← List.map_take] | skip
        rw [htk, List.map_append, List.nodup_append]
        refine ⟨hnd.out, by simp, fun a ha b hb e => ?_⟩
        obtain ⟨q, hq, rfl⟩ := List.mem_map.1 ha
        have := (hof (rg regs q) q).2 ⟨hq, rfl⟩
        simp only [List.map_cons, List.map_nil, List.mem_singleton] at hb
        rw [e, hb, hlk] at this; cases this
  have hond : Hid (l.params.map (rg regs)).Nodup := ⟨by have := hnd.out; rwa [List.take_of_length_le (by omega)] at this⟩
  replace hof : Hid (∀ r p, ilook r t = some p ↔ p ∈ l.params ∧ rg regs p = r) := ⟨fun r p => by have := hof r p; rwa [List.take_of_length_le (by omega)] at this⟩
  clear hnd
  have cah2 := cahead_ok l regs k 0 (by omega) (H ++ [.map (atM t)]) (hkL _)
  simp -dsimp [f0, f2]
  have cah3 : ACalls Try.prog 115 [.bp k 0, I 0] (H ++ [.map (atM t)]) (fun e H' => e = .ret (Int.sl li) ∧ H' = H ++ [.map (atM t)]) := by rw [← hliE.out] at cah2; exact cah2
  refine acallsW_det cah3 ?_
  simp -dsimp [f0, f2]
  refine loop_rule (hn := fun d => d == 23) (od := fun _ => none) (fun (n : Nat) f M => H ++ [.map (atM t)] = M ∧ f 0 = .bp k 0 ∧ f 2 = .hm H.length ∧ f 85 = Int.sl li ∧ f 86 = I li.length ∧ f 87 = I n ∧ n ≤ li.length ∧ Hid (∀ v ∈ li.take n, ∀ p, ilook (rg regs v) t = some p → p = v)) (fun n => li.length - n) (by kernel_rfl) 0 (by refine ⟨rfl, by simp [f0], by simp [f2], by simp, by simp, by simp, by omega, ⟨by simp⟩⟩) ?_
  clear f0 f2 f52 f53 f54 f
  rintro n f _ ⟨rfl, f0, f2, f85, f86, f87, hn, hall⟩
  simp -dsimp [f0, f2, f85, f86, f87]
  refine condVW_introD (fun hlt2 => ?_) (fun hlt2 => ?_)
  · have hlt2' : n < li.length := by omega
    have hx := List.getElem?_eq_getElem hlt2'
    have hm := List.getElem_mem hlt2'
    obtain ⟨v, hvv⟩ : ∃ v, v = li[n] := ⟨_, rfl⟩
    rw [← hvv] at hx hm
    clear hvv
    obtain ⟨r1, r2, r3⟩ := rgl.out v hm
    have hf := atM_find (rg regs v) t
    have hm := Hid.mk hm
    have nx := fun hp => snoc_all hx hall.out hp
    replace nx := Hid.mk nx
    simp -dsimp [f0, f2, f85, f86, f87, hx, hkL]
    refine ⟨r2, ?_⟩
    cases hlk : ilook (rg regs v) t with
    | none =>
      rw [hlk] at hf
      simp -dsimp [f0, f2, f85, f86, f87, hx, hkL, r1, hme, hf]
      refine acallsW_of (cm _ _) ?_
      rintro e _ ⟨rfl, rfl⟩
      simp -dsimp [mustR_t, f0, f2, f85, f86, f87]
      exact ⟨n + 1, by omega, wrapS (by omega), by omega, ⟨nx.out (fun p h => by rw [hlk] at h; cases h)⟩⟩
    | some p =>
      rw [hlk] at hf
      simp -dsimp [f0, f2, f85, f86, f87, hx, hkL, r1, hme, hf]
      refine acallsW_of (cm _ _) ?_
      rintro e _ ⟨rfl, rfl⟩
      by_cases hpv : p = v
      · have e1 : (p == v) = true := by simpa using hpv
        simp -dsimp [e1, mustR_t, f0, f2, f85, f86, f87]
        exact ⟨n + 1, by omega, wrapS (by omega), by omega, ⟨nx.out (fun q h => by rw [hlk, Option.some.injEq] at h; rw [← h]; exact hpv)⟩⟩
      · have e1 : (p == v) = false := by simpa using hpv
        simp -dsimp [e1, mustR_f]
        refine no.out (fun h => ?_) _
        obtain ⟨q1, q2⟩ := (hof.out _ _).1 hlk
        by_cases hvp : v ∈ l.params
        · obtain ⟨i1, hi1⟩ := List.mem_iff_getElem?.1 hvp
          obtain ⟨i2, hi2⟩ := List.mem_iff_getElem?.1 q1
          exact h.once i1 i2 v p hi1 hi2 (fun e => hpv (by rw [e, hi1, Option.some.injEq] at hi2; exact hi2.symm)) q2
        · exact (h.live v ((hlm.out v).1 hm.out) hvp).2 p q1 q2
  · simp -dsimp
    refine yes.out ⟨hlen.out, hrng.out, hhas.out, fun i1 i2 p q h1 h2 hne he => ?_, fun v hv hvp => ⟨hlive.out v ((hlm.out v).2 hv), fun p hp he => ?_⟩⟩ _
    · have e1 : (l.params.map (rg regs))[i1]? = some (rg regs p) := by rw [List.getElem?_map, h1]; rfl
      have e2 : (l.params.map (rg regs))[i2]? = some (rg regs p) := by rw [List.getElem?_map, h2, ← he]; rfl
      obtain ⟨a1, a2⟩ := List.getElem?_eq_some_iff.1 e1
      obtain ⟨b1, b2⟩ := List.getElem?_eq_some_iff.1 e2
      exact hne ((List.getElem_inj hond.out).1 (b2.trans a2.symm))
    · have := hall.out v (by rw [List.take_of_length_le (by omega)]; exact (hlm.out v).2 hv) p ((hof.out _ _).2 ⟨hp, he⟩)
      subst this
      exact hvp hp
end Go.Proofs
namespace Go.Proofs
open Go.Mu
def LineR (l : Linear) (regs : List Int) (i : Nat) (H : List Blk) (e : AE) (M : List Blk) : Prop := e = mustR i (rightOk l regs i) ∧ ∃ L, M = H ++ L
theorem cline_ok (l : Linear) (hs : l.Sm) (hok : l.ok = true) (regs : List Int) (hrl : regs.length ≤ 2^36) (hlen : (regs.length : Int) = l.vars) (k : Nat) (i : Nat) (hi : i < l.code.length) (H : List Blk) (hk : H[k]? = some (ckB l regs (Ints.sl (lvL l)))) : ACalls Try.prog 85 [.bp k 0, I i] H (LineR l regs i H) := by
  have ho := ((ok_iff l).1 hok).1
  refine acalls_of_vc (hn := fun d => d == 86) (od := fun _ => none) Try.func85 rfl (by kernel_rfl) ?_
  obtain ⟨x, hx⟩ : ∃ x, l.code[i]? = some x := ⟨_, List.getElem?_eq_getElem hi⟩
  have hlx := ho.lines x (List.mem_of_getElem? hx)
  obtain ⟨_, ui, di⟩ := line_in hlx
  have hv := ho.vars
  have ul := uses_len x
  have dl := defs_len x
  have cu := fun H => uses_ok x H
  have cm := fun b H => cmust_to (.bp k 0) i b H
  have c1 := fun H h => chas_ok l regs (Ints.sl (lvL l)) k x.uses hlen (fun v hv => ui v ((riseL_mem _ _).1 hv)) (by omega) H h
  have c2 := fun H h => chas_ok l regs (Ints.sl (lvL l)) k x.defs hlen di (by omega) H h
  have cb := fun H h => cbehind_ok l hs hok regs k i x hx H h
  have bin := fun v (hv : v ∈ behRaw l i x) => rg_at hlen (behL_in ho ((behRaw_mem ho hx).1 hv))
  have din := fun v (hv : v ∈ x.defs) => rg_at hlen (di v hv)
  have bll : (behRaw l i x).length ≤ 2^38 := by
    unfold behRaw
    split
    · have := hs.rets; omega
    · have := behRaw_len l hs ho i x (nxt l i).length
      rwa [List.take_of_length_le (Nat.le_refl _)] at this
  have bm := fun v => behRaw_mem (v := v) ho hx
  simp only [Line.cells] at cu
  have hEQ := @right_iff l regs i x hx
  obtain ⟨E, hE⟩ : ∃ E, E = rightOk l regs i := ⟨_, rfl⟩
  rw [← hE] at hEQ
  have yes : RRight l regs i x → ∀ L, LineR l regs i H (.ret (.tup [])) (H ++ L) := fun h L => ⟨by rw [← hE, hEQ.2 h]; rfl, L, rfl⟩
  have no : ¬ RRight l regs i x → ∀ L, LineR l regs i H (.pan (wrongV i)) (H ++ L) := fun h L => ⟨by
    have : E = false := by rw [Bool.eq_false_iff]; exact fun q => h (hEQ.1 q)
    rw [← hE, this]; rfl, L, rfl⟩
  replace yes := Hid.mk yes
  replace no := Hid.mk no
  have ui := Hid.mk ui
  have di := Hid.mk di
  have bin := Hid.mk bin
  have din := Hid.mk din
  have bm := Hid.mk bm
  have hi2 := Hid.mk hi
  have hE := Hid.mk hE
  clear hEQ
  obtain ⟨us, hus⟩ : ∃ us, us = x.uses := ⟨_, rfl⟩
  obtain ⟨df, hdf⟩ : ∃ df, df = x.defs := ⟨_, rfl⟩
  obtain ⟨bh, hbh⟩ : ∃ bh, bh = behRaw l i x := ⟨_, rfl⟩
  rw [← hus, ← hdf] at cu
  rw [← hus] at c1
  rw [← hdf] at c2 din dl
  rw [← hbh] at cb bin bll bm
  have hus := Hid.mk hus
  have hdf := Hid.mk hdf
  have hbh := Hid.mk hbh
  obtain ⟨P1, hP1⟩ : ∃ P1, P1 = us.all fun v => decide (0 ≤ rg regs v) := ⟨_, rfl⟩
  obtain ⟨P2, hP2⟩ : ∃ P2, P2 = df.all fun v => decide (0 ≤ rg regs v) := ⟨_, rfl⟩
  rw [← hP1] at c1
  rw [← hP2] at c2
  obtain ⟨N, hN⟩ : ∃ N, N = H ++ [Blk.box 41 [I x.kind, I x.ins.kind, I x.ins.op, I x.ins.d, I x.ins.a, I x.ins.b, I x.ins.c, U x.ins.word, Bo x.ins.stack, I x.var, I x.label]] := ⟨_, rfl⟩
  have hkL : N[k]? = some (ckB l regs (Ints.sl (lvL l))) := by rw [hN]; exact get_app_old hk _
  have hXL : N[H.length]? = some (Blk.box 41 [I x.kind, I x.ins.kind, I x.ins.op, I x.ins.d, I x.ins.a, I x.ins.b, I x.ins.c, U x.ins.word, Bo x.ins.stack, I x.var, I x.label]) := by rw [hN]; simp
  simp -dsimp [hk, hx]
  rw [← hN]
  have hN := Hid.mk hN
  refine acallsW_det (cu _) ?_
  simp -dsimp [hk, hx, hXL]
  refine acallsW_det (c1 _ hkL) ?_
  cases P1
  · simp -dsimp
    refine acallsW_of (cm _ _) ?_
    rintro e _ ⟨rfl, rfl⟩
    simp -dsimp [mustR_f]
    rw [hN.out]
    refine no.out (fun h => ?_) _
    obtain ⟨v, hv, hb⟩ := List.all_eq_false.1 hP1.symm
    have := h.uses v (by rw [← hus.out]; exact hv)
    simp at hb; omega
  have huses : Hid (∀ v ∈ us, 0 ≤ rg regs v) := ⟨fun p hp => by simpa using List.all_eq_true.1 hP1.symm p hp⟩
  clear hP1 c1
  simp -dsimp
  refine acallsW_det (c2 _ hkL) ?_
  simp -dsimp
  refine acallsW_of (cm _ _) ?_
  rintro e _ ⟨rfl, rfl⟩
  cases P2
  · simp -dsimp [mustR_f]
    rw [hN.out]
    refine no.out (fun h => ?_) _
    obtain ⟨v, hv, hb⟩ := List.all_eq_false.1 hP2.symm
    have := (h.defs v (by rw [← hdf.out]; exact hv)).1
    simp at hb; omega
  have hdefs : Hid (∀ v ∈ df, 0 ≤ rg regs v) := ⟨fun p hp => by simpa using List.all_eq_true.1 hP2.symm p hp⟩
  clear hP2 c2
  simp -dsimp [mustR_t]
  refine loop_rule (hn := fun d => d == 86) (od := fun _ => none) (fun (n : Nat) f M => N = M ∧ f 0 = .bp k 0 ∧ f 1 = I i ∧ f 4 = .bp H.length 0 ∧ f 36 = Int.sl df ∧ f 37 = I df.length ∧ f 38 = I n ∧ n ≤ df.length ∧ Hid (∀ d ∈ df.take n, ∀ b ∈ bh, b ≠ d → rg regs b = rg regs d → x.ins.kind = 2 ∧ x.ins.a = b)) (fun n => df.length - n) (by kernel_rfl) 0 (by refine ⟨rfl, by simp, by simp, by simp, by simp, by simp, by simp, by omega, ⟨by simp⟩⟩) ?_
  rintro n f _ ⟨rfl, f0, f1, f4, f36, f37, f38, hn, hall⟩
  simp -dsimp [f0, f1, f4, f36, f37, f38]
  refine condVW_introD (fun hlt => ?_) (fun hlt => ?_)
  rotate_left
  · simp -dsimp
    rw [hN.out]
    refine yes.out ⟨fun v hv => huses.out v (by rw [hus.out]; exact hv), fun d hd => ⟨hdefs.out d (by rw [hdf.out]; exact hd), fun b hb => ?_⟩⟩ _
    exact hall.out d (by rw [List.take_of_length_le (by omega), hdf.out]; exact hd) b ((bm.out b).2 hb)
  have hlt' : n < df.length := by omega
  have hxn := List.getElem?_eq_getElem hlt'
  have hm := List.getElem_mem hlt'
  obtain ⟨d, hd⟩ : ∃ d, d = df[n] := ⟨_, rfl⟩
  rw [← hd] at hxn hm
  clear hd
  obtain ⟨r1, r2, r3⟩ := din.out d hm
  have hm := Hid.mk hm
  have nx := fun hp => snoc_all hxn hall.out hp
  replace nx := Hid.mk nx
  simp -dsimp [f0, f1, f4, f36, f37, f38, hxn]
  refine acallsW_det (cb _ hkL) ?_
  simp -dsimp [f0, f1, f4, f36, f37, f38, hxn]
  refine loop_rule (hn := fun d => d == 86) (od := fun _ => none) (fun (q : Nat) f M => N = M ∧ f 0 = .bp k 0 ∧ f 1 = I i ∧ f 4 = .bp H.length 0 ∧ f 8 = I d ∧ f 36 = Int.sl df ∧ f 37 = I df.length ∧ f 38 = I n ∧ f 44 = Int.sl bh ∧ f 45 = I bh.length ∧ f 46 = I q ∧ q ≤ bh.length ∧ Hid (∀ b ∈ bh.take q, b ≠ d → rg regs b = rg regs d → x.ins.kind = 2 ∧ x.ins.a = b)) (fun q => bh.length - q) (by kernel_rfl) 0 (by refine ⟨rfl, by simp [f0], by simp [f1], by simp [f4], by simp, by simp [f36], by simp [f37], by simp [f38], by simp, by simp, by simp, by omega, ⟨by simp⟩⟩) ?_
  clear f0 f1 f4 f36 f37 f38 f
  rintro q f _ ⟨rfl, f0, f1, f4, f8, f36, f37, f38, f44, f45, f46, hq, hin⟩
  simp -dsimp [f0, f1, f4, f8, f36, f37, f38, f44, f45, f46]
  refine condVW_introD (fun hlt2 => ?_) (fun hlt2 => ?_)
  rotate_left
  · simp -dsimp [f0, f1, f4, f36, f37, f38]
    exact ⟨n + 1, by omega, wrapS (by omega), by omega, ⟨nx.out (fun b hb => hin.out b (by rw [List.take_of_length_le (by omega)]; exact hb))⟩⟩
  have hlt2' : q < bh.length := by omega
  have hy := List.getElem?_eq_getElem hlt2'
  have hmy := List.getElem_mem hlt2'
  obtain ⟨b, hbb⟩ : ∃ b, b = bh[q] := ⟨_, rfl⟩
  rw [← hbb] at hy hmy
  clear hbb
  obtain ⟨s1, s2, s3⟩ := bin.out b hmy
  have hmy := Hid.mk hmy
  have nxk := fun hp => snoc_all hy hin.out hp
  replace nxk := Hid.mk nxk
  have bad : ¬ (x.ins.kind = 2 ∧ x.ins.a = b) → b ≠ d → rg regs b = rg regs d → ¬ RRight l regs i x := fun h h1 h2 q => h ((q.defs d (by rw [← hdf.out]; exact hm.out)).2 b ((bm.out b).1 hmy.out) h1 h2)
  replace bad := Hid.mk bad
  have next : (b ≠ d → rg regs b = rg regs d → x.ins.kind = 2 ∧ x.ins.a = b) → ∃ y, bh.length - y < bh.length - q ∧ IntKind.i64.wrap ((q : Int) + 1) = (y : Int) ∧ y ≤ bh.length ∧ Hid (∀ b ∈ bh.take y, b ≠ d → rg regs b = rg regs d → x.ins.kind = 2 ∧ x.ins.a = b) := fun h => ⟨q + 1, by omega, wrapS (by omega), by omega, ⟨nxk.out h⟩⟩
  replace next := Hid.mk next
  have w1 : (x.ins.kind = 2 ∧ x.ins.a = b) ∨ ¬ (x.ins.kind = 2 ∧ x.ins.a = b) := Classical.em _
  rcases w1 with hsr | hsr
  · have k2 : (x.ins.kind == 2) = true := by simpa using hsr.1
    have a2 : (x.ins.a == b) = true := by simpa using hsr.2
    have hsr := Hid.mk hsr
    by_cases hbd : b = d
    · have e1 : (b == d) = true := by simpa using hbd
      simp -dsimp [f0, f1, f4, f8, f36, f37, f38, f44, f45, f46, hy, hXL, hkL, k2, a2, e1]
      refine acallsW_of (cm _ _) ?_
      rintro e _ ⟨rfl, rfl⟩
      simp -dsimp [mustR_t, f0, f1, f4, f8, f36, f37, f38, f44, f45, f46, hy, hXL, hkL]
      exact next.out (fun _ _ => hsr.out)
    · have e1 : (b == d) = false := by simpa using hbd
      simp -dsimp [f0, f1, f4, f8, f36, f37, f38, f44, f45, f46, hy, hXL, hkL, k2, a2, e1]
      refine acallsW_of (cm _ _) ?_
      rintro e _ ⟨rfl, rfl⟩
      simp -dsimp [mustR_t, f0, f1, f4, f8, f36, f37, f38, f44, f45, f46, hy, hXL, hkL]
      exact next.out (fun _ _ => hsr.out)
  have hsr2 := Hid.mk hsr
  by_cases hk2 : x.ins.kind = 2
  · have k2 : (x.ins.kind == 2) = true := by simpa using hk2
    have a2 : (x.ins.a == b) = false := by simpa using fun h => hsr ⟨hk2, h⟩
    clear hsr
    by_cases hbd : b = d
    · have e1 : (b == d) = true := by simpa using hbd
      have hbd := Hid.mk hbd
      simp -dsimp [f0, f1, f4, f8, f36, f37, f38, f44, f45, f46, hy, hXL, hkL, k2, a2, e1]
      refine acallsW_of (cm _ _) ?_
      rintro e _ ⟨rfl, rfl⟩
      simp -dsimp [mustR_t, f0, f1, f4, f8, f36, f37, f38, f44, f45, f46, hy, hXL, hkL]
      exact next.out (fun h _ => absurd hbd.out h)
    · have e1 : (b == d) = false := by simpa using hbd
      have hbd := Hid.mk hbd
      simp -dsimp [f0, f1, f4, f8, f36, f37, f38, f44, f45, f46, hy, hXL, hkL, k2, a2, e1]
      refine ⟨s2, ?_⟩
      simp -dsimp [f0, f1, f4, f8, f36, f37, f38, f44, f45, f46, hy, hXL, hkL, k2, a2, e1, s1]
      refine ⟨r2, ?_⟩
      by_cases hrr : rg regs b = rg regs d
      · have e2 : (rg regs b != rg regs d) = false := by simp [hrr]
        have hrr := Hid.mk hrr
        simp -dsimp [f0, f1, f4, f8, f36, f37, f38, f44, f45, f46, hy, hXL, hkL, k2, a2, e1, s1, r1, e2]
        refine acallsW_of (cm _ _) ?_
        rintro e _ ⟨rfl, rfl⟩
        simp -dsimp [mustR_f]
        rw [hN.out]
        exact no.out (bad.out hsr2.out hbd.out hrr.out) _
      · have e2 : (rg regs b != rg regs d) = true := by simpa using hrr
        have hrr := Hid.mk hrr
        simp -dsimp [f0, f1, f4, f8, f36, f37, f38, f44, f45, f46, hy, hXL, hkL, k2, a2, e1, s1, r1, e2]
        refine acallsW_of (cm _ _) ?_
        rintro e _ ⟨rfl, rfl⟩
        simp -dsimp [mustR_t, f0, f1, f4, f8, f36, f37, f38, f44, f45, f46, hy, hXL, hkL]
        exact next.out (fun _ h => absurd h hrr.out)
  · have k2 : (x.ins.kind == 2) = false := by simpa using hk2
    clear hsr
    by_cases hbd : b = d
    · have e1 : (b == d) = true := by simpa using hbd
      have hbd := Hid.mk hbd
      simp -dsimp [f0, f1, f4, f8, f36, f37, f38, f44, f45, f46, hy, hXL, hkL, k2, e1]
      refine acallsW_of (cm _ _) ?_
      rintro e _ ⟨rfl, rfl⟩
      simp -dsimp [mustR_t, f0, f1, f4, f8, f36, f37, f38, f44, f45, f46, hy, hXL, hkL]
      exact next.out (fun h _ => absurd hbd.out h)
    · have e1 : (b == d) = false := by simpa using hbd
      have hbd := Hid.mk hbd
      simp -dsimp [f0, f1, f4, f8, f36, f37, f38, f44, f45, f46, hy, hXL, hkL, k2, e1]
      refine ⟨s2, ?_⟩
      simp -dsimp [f0, f1, f4, f8, f36, f37, f38, f44, f45, f46, hy, hXL, hkL, k2, e1, s1]
      refine ⟨r2, ?_⟩
      by_cases hrr : rg regs b = rg regs d
      · have e2 : (rg regs b != rg regs d) = false := by simp [hrr]
        have hrr := Hid.mk hrr
        simp -dsimp [f0, f1, f4, f8, f36, f37, f38, f44, f45, f46, hy, hXL, hkL, k2, e1, s1, r1, e2]
        refine acallsW_of (cm _ _) ?_
        rintro e _ ⟨rfl, rfl⟩
        simp -dsimp [mustR_f]
        rw [hN.out]
        exact no.out (bad.out hsr2.out hbd.out hrr.out) _
      · have e2 : (rg regs b != rg regs d) = true := by simpa using hrr
        have hrr := Hid.mk hrr
        simp -dsimp [f0, f1, f4, f8, f36, f37, f38, f44, f45, f46, hy, hXL, hkL, k2, e1, s1, r1, e2]
        refine acallsW_of (cm _ _) ?_
        rintro e _ ⟨rfl, rfl⟩
        simp -dsimp [mustR_t, f0, f1, f4, f8, f36, f37, f38, f44, f45, f46, hy, hXL, hkL]
        exact next.out (fun _ h => absurd h hrr.out)
end Go.Proofs
namespace Go.Proofs
open Go.Mu
@[simp] theorem nil20 : binE Try.prog .eql 20 (.v .nilIface) (.v .nilIface) = some (.v (.bool true)) := by kernel_rfl
@[simp] theorem ifc20 (t : Nat) (x : AV) : binE Try.prog .eql 20 (.ifc t x) (.v .nilIface) = some (.v (.bool false)) := by kernel_rfl
theorem crec_none (a b : Nat) (H : List Blk) : RecSem Try.prog ⟨83, [.bp a 0, .bp b 0], none⟩ (.v .nilIface) H (fun H' => H' = H) := by
  refine recSem_of_vc (hn := fun _ => false) (od := fun _ => none) Try.func83 rfl rfl (by kernel_rfl) ?_
  show vcC _ _ _ _ _ (recQ _) _ _ _
  simp -dsimp
theorem crec_some (a b : Nat) (H : List Blk) (n x y : Int) (ha : H[a]? = some (.box 3 [I x])) (hb : H[b]? = some (.box 28 [I y])) (hab : a ≠ b) : RecSem Try.prog ⟨83, [.bp a 0, .bp b 0], none⟩ (wrongV n) H (fun H' => ∃ L, H' = (H.set a (.box 3 [I n])).set b (.box 28 [I 16]) ++ L) := by
  refine recSem_of_vc (hn := fun _ => false) (od := fun _ => none) Try.func83 rfl rfl (by kernel_rfl) ?_
  show vcC _ _ _ _ _ (recQ _) _ _ _
  have hla := lt_of_get ha
  have hlb := lt_of_get hb
  have haL := fun L => get_app_old ha L
  have hbL := fun L => get_app_old hb L
  have hs1 : ∀ L X, (H ++ L).set a X = H.set a X ++ L := fun L X => by rw [List.set_append, if_pos hla]
  have hs2 : ∀ X L, (H.set a X ++ L)[b]? = some (.box 28 [I y]) := fun X L => by rw [List.getElem?_append_left (by simpa using hlb), List.getElem?_set_ne hab, hb]
  have hs3 : ∀ L X Y, (H.set a X ++ L).set b Y = (H.set a X).set b Y ++ L := fun L X Y => by rw [List.set_append, if_pos (by simpa using hlb)]
  simp -dsimp [assertV, haL, hbL, hs1, hs2, hs3]
theorem call_ok (l : Linear) (hs : l.Sm) (hok : l.ok = true) (regs : List Int) (hrl : regs.length ≤ 2^36) (k : Nat) (H : List Blk) (hk : H[k]? = some (ckB l regs (Ints.sl (lvL l)))) : ACalls Try.prog 39 [.bp k 0] H (fun e H' => e = .ret (.tup [I (chkM l regs).1, I (chkM l regs).2]) ∧ H' = H) := by
  refine acalls_tidy (acalls_of_vcD (hn := fun d => d == 35) (od := fun _ => none) Try.func39 rfl (by kernel_rfl) ?_)
  have ho := ((ok_iff l).1 hok).1
  have hcl := hs.code
  have hrt := hs.rets
  obtain ⟨E, hE⟩ : ∃ E, E = chkM l regs := ⟨_, rfl⟩
  rw [← hE]
  unfold chkM at hE
  rw [if_neg (by rw [hok]; decide)] at hE
  have fin : ∀ (a b : Int) L, E = (a, b) → Tidy H (fun e H' => e = .ret (.tup [I E.1, I E.2]) ∧ H' = H) (.ret (.tup [I a, I b])) (H ++ L) := fun a b L h => by
    rw [h]; exact tidy_same rfl ⟨rfl, rfl⟩
  replace fin := Hid.mk fin
  obtain ⟨N, hN⟩ : ∃ N : Int → Int → List Blk, ∀ a b, N a b = H ++ [.box 3 [I a], .box 28 [I b]] := ⟨_, fun _ _ => rfl⟩
  have hkL : ∀ a b L, (N a b ++ L)[k]? = some (ckB l regs (Ints.sl (lvL l))) := fun a b L => by rw [hN, List.append_assoc]; exact get_app_old hk _
  have hk0 : ∀ a b, (N a b)[k]? = some (ckB l regs (Ints.sl (lvL l))) := fun a b => by rw [hN]; exact get_app_old hk _
  have ha : ∀ a b L, (N a b ++ L)[H.length]? = some (.box 3 [I a]) := fun a b L => by rw [hN]; simp
  have hb : ∀ a b L, (N a b ++ L)[H.length + 1]? = some (.box 28 [I b]) := fun a b L => by rw [hN]; simp
  have sab : ∀ a b a' b' L, ((N a b ++ L).set H.length (.box 3 [I a'])).set (H.length + 1) (.box 28 [I b']) = N a' b' ++ L := fun a b a' b' L => by rw [hN, hN]; simp
  have fin2 : Hid (∀ a b L, E = (a, b) → Tidy H (fun e H' => e = .ret (.tup [I E.1, I E.2]) ∧ H' = H) (.ret (.tup [I a, I b])) (N a b ++ L)) := ⟨fun a b L h => by rw [hN, List.append_assoc]; exact fin.out a b _ h⟩
  simp -dsimp
  rw [← hN]
  have hN := Hid.mk hN
  have cb := cbeg_ok l hs hok regs hrl k (N 0 0) (hk0 _ _)
  have hE := Hid.mk hE
  refine acallsW_of cb ?_
  rintro e M ⟨rfl, L, rfl⟩
  have cm := fun (b : Bool) H => cmust_to (.bp k 0) l.code.length b H
  cases hbg : begOk l regs
  · simp -dsimp [mustR_f]
    refine recW_of (crec_some H.length (H.length + 1) (N 0 0 ++ L) (-1) 0 0 (ha _ _ _) (hb _ _ _) (by omega)) ?_
    rintro H' ⟨L', rfl⟩
    rw [sab, List.append_assoc]
    simp -dsimp [ha, hb]
    exact fin2.out _ _ _ (by rw [hE.out, if_pos hbg])
  have hlen := ((beg_iff ho).1 hbg).len
  replace hE : Hid (E = match (List.range l.code.length).find? fun i => !rightOk l regs i with | some i => ((i : Int), 16) | none => if l.rets.all (fun v => decide (0 ≤ rg regs v)) = true then (0, 0) else ((l.code.length : Int), 16)) := ⟨by rw [hE.out, if_neg (by rw [hbg]; decide)]; rfl⟩
  have cl := fun i hi H h => cline_ok l hs hok regs hrl hlen k i hi H h
  have ch := fun H h => chas_ok l regs (Ints.sl (lvL l)) k l.rets hlen ho.rets (by omega) H h
  have hlen := Hid.mk hlen
  simp -dsimp [mustR_t, hkL]
  refine loop_rule (hn := fun d => d == 35) (od := fun _ => none) (fun (n : Nat) f M => (∃ L, M = N 0 0 ++ L) ∧ f 0 = .bp k 0 ∧ f 2 = .bp H.length 0 ∧ f 3 = .bp (H.length + 1) 0 ∧ f 13 = I l.code.length ∧ f 14 = I n ∧ n ≤ l.code.length ∧ Hid (∀ i, i < n → rightOk l regs i = true)) (fun n => l.code.length - n) (by kernel_rfl) 0 (by refine ⟨⟨L, rfl⟩, by simp, by simp, by simp, by simp, by simp, by omega, ⟨fun i hi => by omega⟩⟩) ?_
  clear L cb
  rintro n f _ ⟨⟨L, rfl⟩, f0, f2, f3, f13, f14, hn, hall⟩
  simp -dsimp [f0, f2, f3, f13, f14]
  refine condVW_introD (fun hlt => ?_) (fun hlt => ?_)
  · have hlt' : n < l.code.length := by omega
    simp -dsimp [f0, f2, f3, f13, f14]
    refine acallsW_of (cl n hlt' _ (hkL _ _ _)) ?_
    rintro e M ⟨rfl, L2, rfl⟩
    rw [List.append_assoc]
    cases hr : rightOk l regs n
    · simp -dsimp [mustR_f, f0, f2, f3]
      refine recW_of (crec_some H.length (H.length + 1) (N 0 0 ++ (L ++ L2)) n 0 0 (ha _ _ _) (hb _ _ _) (by omega)) ?_
      rintro H' ⟨L', rfl⟩
      rw [sab, List.append_assoc]
      simp -dsimp [f0, f2, f3, ha, hb]
      refine fin2.out _ _ _ ?_
      have hf : (List.range l.code.length).find? (fun i => !rightOk l regs i) = some n := by
        rw [List.find?_range_eq_some]
        exact ⟨by rw [hr]; rfl, List.mem_range.2 hlt', fun j hj => by rw [hall.out j hj]; rfl⟩
      rw [hE.out, hf]
    · simp -dsimp [mustR_t, f0, f2, f3, f13, f14]
      refine ⟨n + 1, by omega, wrapS (by omega), by omega, ⟨fun i hi => ?_⟩⟩
      by_cases e : i = n
      · rw [e, hr]
      · exact hall.out i (by omega)
  have hf : (List.range l.code.length).find? (fun i => !rightOk l regs i) = none := by
    rw [List.find?_eq_none]
    intro i hi
    rw [hall.out i (by have := List.mem_range.1 hi; omega)]; decide
  replace hE : Hid (E = if l.rets.all (fun v => decide (0 ≤ rg regs v)) = true then (0, 0) else ((l.code.length : Int), 16)) := ⟨by rw [hE.out, hf]⟩
  clear hf hall
  obtain ⟨P1, hP1⟩ : ∃ P1, P1 = l.rets.all fun v => decide (0 ≤ rg regs v) := ⟨_, rfl⟩
  rw [← hP1] at ch hE
  clear hP1
  simp -dsimp [f0, f2, f3, hkL]
  refine callDW_intro (ch _ (hkL _ _ _)) ?_
  simp -dsimp [f0, f2, f3, hkL]
  refine acallsW_of (cm _ _) ?_
  rintro e _ ⟨rfl, rfl⟩
  cases P1
  · simp -dsimp [mustR_f, f0, f2, f3]
    refine recW_of (crec_some H.length (H.length + 1) (N 0 0 ++ L) l.code.length 0 0 (ha _ _ _) (hb _ _ _) (by omega)) ?_
    rintro H' ⟨L', rfl⟩
    rw [sab, List.append_assoc]
    simp -dsimp [f0, f2, f3, ha, hb]
    exact fin2.out _ _ _ (by rw [hE.out]; rfl)
  · have s1 := sab 0 0 0 0
    simp -dsimp [mustR_t, f0, f2, f3, ha, hb, s1]
    refine recW_of (crec_none _ _ _) ?_
    rintro H' rfl
    simp -dsimp [f0, f2, f3, ha, hb]
    exact fin2.out _ _ _ (by rw [hE.out]; rfl)
theorem ccheck_ok (l : Linear) (hs : l.Sm) (regs : List Int) (hrl : regs.length ≤ 2^36) (H : List Blk) : ACalls Try.prog 13 [.agg l.cells, Int.sl regs] H (fun e H' => e = .ret (.tup [I (chkM l regs).1, I (chkM l regs).2]) ∧ H' = H) := by
  refine acalls_tidy (acalls_of_vc (hn := fun _ => false) (od := fun _ => none) Try.func13 rfl (by kernel_rfl) ?_)
  cases hok : l.ok
  · have cl := fun H => live_no l hs hok H
    simp only [Linear.cells] at cl
    have e : chkM l regs = (0, 2) := by unfold chkM; rw [if_pos hok]
    rw [e]
    simp -dsimp
    refine acallsW_det (cl _) ?_
    simp -dsimp
    exact tidy_same rfl ⟨rfl, rfl⟩
  · have cl := fun H => live_ok l hs hok H
    simp only [Linear.cells] at cl
    have ca := fun k H h => call_ok l hs hok regs hrl k H h
    simp -dsimp
    refine acallsW_det (cl _) ?_
    simp -dsimp
    refine acallsW_det (ca _ _ (by simp)) ?_
    simp -dsimp
    exact tidy_same rfl ⟨rfl, rfl⟩
end Go.Proofs
namespace Go.Proofs
open Go.Mu
def rgN (regs : List Int) (v : Int) : Int := if v < 0 then v else rg regs v
abbrev regF (k : Nat) : AV := .fn (.func 42) [.bp k 0] []
theorem reg_ok (l : Linear) (regs : List Int) (lv : AV) (k : Nat) (v : Int) (hv : v < regs.length) (H : List Blk) (hk : H[k]? = some (ckB l regs lv)) : ACalls Try.prog 42 [.bp k 0, I v] H (fun e H' => e = .ret (I (rgN regs v)) ∧ H' = H) := by
  refine acalls_of_vc (hn := fun _ => false) (od := fun _ => none) Try.func42 rfl (by kernel_rfl) ?_
  by_cases h : v < 0
  · have d : decide (v < 0) = true := decide_eq_true h
    have e : rgN regs v = v := if_pos h
    rw [e]
    simp -dsimp [d]
  · have d : decide (v < 0) = false := decide_eq_false h
    have e : rgN regs v = rg regs v := if_neg h
    have hg := rg_get (regs := regs) (v := v) (by omega) hv
    have hv' : 0 ≤ v := by omega
    rw [e]
    simp -dsimp [d, hk]
    refine ⟨hv', ?_⟩
    simp -dsimp [hk, hg]
theorem each_own (l : Linear) (regs : List Int) (lv : AV) (k : Nat) (vs : List Int) (hv : ∀ v ∈ vs, v < regs.length) (hl : vs.length ≤ 2^38) (H : List Blk) (hk : H[k]? = some (ckB l regs lv)) : ACalls Try.prog 43 [Int.sl vs, regF k] H (SortR H (vs.map (rgN regs))) := by
  refine acalls_of_vc (hn := fun d => d == 19) (od := fun _ => none) Try.func43 rfl (by kernel_rfl) ?_
  simp -dsimp
  refine loop_rule (hn := fun d => d == 19) (od := fun _ => none) (fun (i : Nat) f M => f 1 = regF k ∧ f 8 = Int.sl vs ∧ f 9 = I vs.length ∧ f 10 = I i ∧ i ≤ vs.length ∧ ∃ h, f 5 = hrow h ((vs.take i).map (rgN regs)).length ∧ OwnI H M h ((vs.take i).map (rgN regs))) (fun i => vs.length - i) (by kernel_rfl) 0 (by refine ⟨by simp, by simp, by simp, by simp, by omega, none, rfl, .nil1 _ _ _⟩) ?_
  rintro i f M ⟨f1, f8, f9, f10, hi, h, f5, ow⟩
  simp -dsimp [f1, f8, f9, f10]
  refine condVW_introD (fun hlt => ?_) (fun hlt => ?_)
  · have hlt' : i < vs.length := by omega
    have hx := List.getElem?_eq_getElem hlt'
    have hxm : vs[i] ∈ vs := List.getElem_mem hlt'
    have hnew : (vs.take (i + 1)).map (rgN regs) = (vs.take i).map (rgN regs) ++ [rgN regs vs[i]] := by rw [List.take_succ_eq_append_getElem hlt', List.map_append]; rfl
    obtain ⟨n, hn⟩ : ∃ n, n = vs[i] := ⟨_, rfl⟩
    rw [← hn] at hx hxm hnew
    have cr := reg_ok l regs lv k n (hv n hxm) M (ow.old hk)
    have hlen : ((vs.take i).map (rgN regs)).length ≤ 2^38 := by simp; omega
    obtain ⟨pr, hpr⟩ : ∃ pr, pr = (vs.take i).map (rgN regs) := ⟨_, rfl⟩
    rw [← hpr] at hnew f5 ow hlen
    replace hpr := Hid.mk hpr
    replace hnew := Hid.mk hnew
    simp -dsimp [f1, f5, f8, f9, f10, hx]
    refine acallsW_det cr ?_
    simp -dsimp [f1, f5, f8, f9, f10, hx]
    refine app_own ow (by simp) rfl rfl (by simp; omega) (by simp; omega) ?_
    intro h' M' ow' _
    have ow2 : OwnI H M' h' (pr ++ [rgN regs n]) := by unfold OwnI; rw [List.map_append]; exact ow'
    have e : (pr.map (fun n => [I n]) ++ [[I (rgN regs n)]]).length = (pr ++ [rgN regs n]).length := by simp
    rw [e]
    rw [← hnew.out] at ow2 ⊢
    simp -dsimp [f1, f8, f9, f10]
    refine ⟨i + 1, by omega, wrapS (by omega), by omega, h', ?_, ?_⟩
    · rfl
    · rw [← List.map_take]; exact ow2
  · simp -dsimp [f5]
    have e : min i vs.length = (vs.map (rgN regs)).length := by simp; omega
    rw [e]
    rw [List.take_of_length_le (by omega)] at ow
    exact ⟨h, rfl, ow⟩
theorem each_ok (l : Linear) (regs : List Int) (lv : AV) (k : Nat) (vs : List Int) (hv : ∀ v ∈ vs, v < regs.length) (hl : vs.length ≤ 2^38) (H : List Blk) (hk : H[k]? = some (ckB l regs lv)) : ACalls Try.prog 43 [Int.sl vs, regF k] H (fun e H' => e = .ret (Int.sl (vs.map (rgN regs))) ∧ H' = H) := by
  refine acalls_under fun hu _ => acalls_weakE (acalls_tidy ((each_own l regs lv k vs hv hl H hk).mono ?_))
  rintro e M ⟨h, rfl, ow⟩
  exact tidy_rowA hu ow (int_frzB _) (map_len _).symm ⟨rfl, rfl⟩
end Go.Proofs
namespace Go.Proofs
open Go.Mu
structure InsIn (vars : Int) (x : Ins) : Prop where
  kd : x.kind = 1 ∨ x.kind = 2 ∨ x.kind = 3 ∨ x.kind = 4 ∨ x.kind = 5
  d : x.kind ≠ 5 → 0 ≤ x.d ∧ x.d < vars
  a : x.kind = 2 ∨ x.kind = 3 → 0 ≤ x.a ∧ x.a < vars
  a' : x.kind = 4 ∨ x.kind = 5 → x.a = -1 ∨ (0 ≤ x.a ∧ x.a < vars)
  b : x.kind = 3 → 6 ≤ x.op → 0 ≤ x.b ∧ x.b < vars
  b' : x.kind = 5 → 0 ≤ x.b ∧ x.b < vars
  c : x.kind = 3 → x.op = 21 → 0 ≤ x.c ∧ x.c < vars
  op : x.kind = 3 → 4 ≤ x.op ∧ x.op ≤ 21
theorem ins_inn {vars : Int} {x : Ins} (h : insOk vars x = true) : InsIn vars x := by
  obtain ⟨kind, op, d, a, b, c, word, stack⟩ := x
  unfold insOk at h
  simp only [Bool.or_eq_true, Bool.and_eq_true, beq_iff_eq, isVr_iff] at h
  have ha : ∀ n, arityI op = n → (n = 1 ∧ (op = 4 ∨ op = 5)) ∨ (n = 2 ∧ 6 ≤ op ∧ op ≤ 20) ∨ (n = 3 ∧ op = 21) ∨ n = 0 := by
    intro n hn
    unfold arityI at hn
    split at hn
    · omega
    · split at hn
      · omega
      · split at hn <;> omega
  have ha := ha _ rfl
  constructor <;> simp only <;> omega
theorem rgN_in (regs : List Int) {v : Int} (h : 0 ≤ v) : rgN regs v = rg regs v := if_neg (by omega)
theorem renamed_ok (l : Linear) (regs : List Int) (lv : AV) (k : Nat) (x : Ins) (hx : insOk l.vars x = true) (hl : (regs.length : Int) = l.vars) (H : List Blk) (hk : H[k]? = some (ckB l regs lv)) : ACalls Try.prog 44 [.agg x.cells, regF k] H (fun e H' => e = .ret (.agg (renIns regs x).cells) ∧ H' = H) := by
  have hi := ins_inn hx
  have cr := fun v M (h : v < (regs.length : Int)) q => reg_ok l regs lv k v h M q
  have hg : ∀ L, (H ++ L)[k]? = some (ckB l regs lv) := fun L => get_app_old hk L
  clear hx
  obtain ⟨kind, op, d, a, b, c, word, stack⟩ := x
  obtain ⟨h0, h1, h2, h3, h4, h5, h6, h7⟩ := hi
  simp only at h0 h1 h2 h3 h4 h5 h6 h7
  refine acalls_tidy (acalls_of_vc (hn := fun _ => false) (od := fun _ => none) Try.func44 rfl (by kernel_rfl) ?_)
  rcases h0 with rfl | rfl | rfl | rfl | rfl
  · have p1 := h1 (by decide)
    have q1 := rgN_in regs p1.1
    simp -dsimp [renIns]
    refine acallsW_det (cr d _ (by omega) (hg _)) ?_
    simp -dsimp [q1]
    exact tidy_same rfl ⟨rfl, rfl⟩
  · have p1 := h1 (by decide)
    have p2 := h2 (by decide)
    have q1 := rgN_in regs p1.1
    have q2 := rgN_in regs p2.1
    simp -dsimp [renIns]
    refine acallsW_det (cr a _ (by omega) (hg _)) ?_
    simp -dsimp [q2]
    refine acallsW_det (cr d _ (by omega) (hg _)) ?_
    simp -dsimp [q1]
    exact tidy_same rfl ⟨rfl, rfl⟩
  · have p1 := h1 (by decide)
    have p2 := h2 (by decide)
    have p7 := h7 rfl
    have q1 := rgN_in regs p1.1
    have q2 := rgN_in regs p2.1
    by_cases e21 : op = 21
    · subst e21
      have p3 := h6 rfl rfl
      have p4 := h4 rfl (by decide)
      have q3 := rgN_in regs p3.1
      have q4 := rgN_in regs p4.1
      simp -dsimp [renIns]
      refine acallsW_det (cr c _ (by omega) (hg _)) ?_
      simp -dsimp [q3]
      refine acallsW_det (cr b _ (by omega) (hg _)) ?_
      simp -dsimp [q4]
      refine acallsW_det (cr a _ (by omega) (hg _)) ?_
      simp -dsimp [q2]
      refine acallsW_det (cr d _ (by omega) (hg _)) ?_
      simp -dsimp [q1]
      exact tidy_same rfl ⟨rfl, rfl⟩
    have d21 : (op == 21) = false := by simpa using e21
    by_cases e6 : 6 ≤ op
    · have d6 : decide (6 ≤ op) = true := decide_eq_true e6
      have p4 := h4 rfl e6
      have q4 := rgN_in regs p4.1
      have er : renIns regs ⟨3, op, d, a, b, c, word, stack⟩ = ⟨3, op, rg regs d, rg regs a, rg regs b, c, word, stack⟩ := by unfold renIns; simp [e6, e21]
      rw [er]
      simp -dsimp [d21, d6]
      refine acallsW_det (cr b _ (by omega) (hg _)) ?_
      simp -dsimp [q4]
      refine acallsW_det (cr a _ (by omega) (hg _)) ?_
      simp -dsimp [q2]
      refine acallsW_det (cr d _ (by omega) (hg _)) ?_
      simp -dsimp [q1]
      exact tidy_same rfl ⟨rfl, rfl⟩
    · have d6 : decide (6 ≤ op) = false := decide_eq_false e6
      have er : renIns regs ⟨3, op, d, a, b, c, word, stack⟩ = ⟨3, op, rg regs d, rg regs a, b, c, word, stack⟩ := by unfold renIns; simp [e6, e21]
      rw [er]
      simp -dsimp [d21, d6]
      refine acallsW_det (cr a _ (by omega) (hg _)) ?_
      simp -dsimp [q2]
      refine acallsW_det (cr d _ (by omega) (hg _)) ?_
      simp -dsimp [q1]
      exact tidy_same rfl ⟨rfl, rfl⟩
  · have p1 := h1 (by decide)
    have q1 := rgN_in regs p1.1
    have p3 := h3 (by decide)
    have er : renIns regs ⟨4, op, d, a, b, c, word, stack⟩ = ⟨4, op, rg regs d, rgN regs a, b, c, word, stack⟩ := rfl
    rw [er]
    simp -dsimp
    refine acallsW_det (cr a _ (by omega) (hg _)) ?_
    simp -dsimp
    refine acallsW_det (cr d _ (by omega) (hg _)) ?_
    simp -dsimp [q1]
    exact tidy_same rfl ⟨rfl, rfl⟩
  · have p5 := h5 rfl
    have q5 := rgN_in regs p5.1
    have p3 := h3 (by decide)
    have er : renIns regs ⟨5, op, d, a, b, c, word, stack⟩ = ⟨5, op, d, rgN regs a, rg regs b, c, word, stack⟩ := rfl
    rw [er]
    simp -dsimp
    refine callDW_intro (cr a _ (by omega) (hg _)) ?_
    simp -dsimp
    refine callDW_intro (cr b _ (by omega) (hg _)) ?_
    simp -dsimp [q5]
    exact tidy_same rfl ⟨rfl, rfl⟩
end Go.Proofs
namespace Go.Proofs
open Go.Mu
theorem chk0 {l : Linear} {regs : List Int} (h : (chkM l regs).2 = 0) : l.ok = true ∧ begOk l regs = true := by
  unfold chkM at h
  split at h
  · simp at h
  · rename_i h1
    split at h
    · simp at h
    · rename_i h2
      exact ⟨by simpa using h1, by simpa using h2⟩
theorem map_rgN (regs : List Int) {vs : List Int} (h : ∀ v ∈ vs, 0 ≤ v) : vs.map (rgN regs) = vs.map (rg regs) := List.map_congr_left fun v hv => rgN_in regs (h v hv)
theorem own_box {t sz : Nat} {B M : List Blk} {h : Option Nat} {es : List (List AV)} {b b' : Blk} (o : Own t sz (B ++ [b]) M h es) : Own t sz (B ++ [b']) (M.set B.length b') h es := by
  obtain ⟨⟨L, rfl⟩, r, nl, nw⟩ := o
  refine ⟨⟨L, by simp⟩, fun k hk => ?_, nl, fun k hk => by simpa using nw k hk⟩
  rw [List.getElem?_set_ne (by have := nw k hk; simp at this; omega)]
  exact r k hk
theorem own_setNew {t sz k : Nat} {H M : List Blk} {h : Option Nat} {es : List (List AV)} {b : Blk} (o : Own t sz H M h es) (hk : H.length ≤ k) (hne : h ≠ some k) : Own t sz H (M.set k b) h es := by
  obtain ⟨⟨L, rfl⟩, r, nl, nw⟩ := o
  refine ⟨⟨L.set (k - H.length) b, by rw [List.set_append_right _ _ hk]⟩, fun j hj => ?_, nl, nw⟩
  rw [List.getElem?_set_ne (fun e => hne (by rw [hj, e]))]
  exact r j hj
theorem tidy_rowIn {t sz : Nat} {H M : List Blk} {h : Option Nat} {es : List (List AV)} {R : AE → List Blk → Prop} {n : Nat} {c1 c2 c3 c4 : AV} {y : Value} (hu : underH H.length H = true) (o : Own t sz H M h es) (hz : es.flatten.all AV.frzB = true) (hn : n = es.length)
    (q : ∀ k, (.agg [c1, c2, c3, c4] : AV).frz k sz es = .agg [c1, c2, c3, c4]) (hc : underL H.length [c1, c2, c3, c4] = true) (hR : R (.ret (.tup [.agg [c1, c2, c3, c4, .vs sz es], .v y])) H) : Tidy H (WeakE R) (.ret (.tup [.agg [c1, c2, c3, c4, hrow h n], .v y])) M := by
  subst hn
  obtain ⟨L, rfl⟩ := o.pre
  have := tidy_giveC (R := WeakE R) (f := fun x => .tup [.agg [c1, c2, c3, c4, x], .v y]) (m := es.length) hu o hz (fun k hk => ?_) fun x L' hx _ _ => ?_
  · rw [cutS_all] at this; exact this
  · have := q k
    simp only [AV.frz, frzL, AV.agg.injEq, List.cons.injEq] at this
    simp [AV.frz, frzL, this]
  · rw [List.take_of_length_le (by omega)] at hx
    simp only [underL, Bool.and_eq_true] at hc
    refine tidy_same (by simp [AV.under, underL, hx.under, hc]) ⟨_, .tupL (.cons (.aggL (.cons (.refl _) (.cons (.refl _) (.cons (.refl _) (.cons (.refl _) (.cons hx.weak .nil)))))) (.cons (.refl _) .nil)), hR⟩
theorem line_frzB (f : Line → Line) (l : List Line) : (l.map fun x => (f x).cells).flatten.all AV.frzB = true := by
  induction l with
  | nil => rfl
  | cons x l ih => rw [List.map_cons, List.flatten_cons, List.all_append, ih]; simp [AV.frzB]
abbrev oB (l : Linear) (ps rs : List Int) (c : AV) : Blk := .box 25 [I 11, Int.sl ps, Int.sl rs, I l.frame, c]
noncomputable def renE (l : Linear) (regs : List Int) : AE := if (chkM l regs).2 = 0 then .ret (.tup [.agg (renL l regs).cells, I 0]) else .ret (.tup [.agg (Linear.mk 0 [] [] 0 []).cells, I (chkM l regs).2])
def rnOd (i : Nat) : Option OPlan := if i = 6 then some [(0, []), (1, []), (2, []), (3, []), (4, []), (5, []), (6, []), (7, []), (8, []), (9, []), (10, []), (11, [0, 1, 3, 4, 5, 7, 8, 9]), (12, [])] else none
theorem rename_ok (l : Linear) (hs : l.Sm) (regs : List Int) (hrl : regs.length ≤ 2^36) (H : List Blk) : ACalls Try.prog 18 [.agg l.cells, Int.sl regs] H (fun e H' => e = renE l regs ∧ H' = H) := by
  refine acalls_under fun hu _ => acalls_weakE (acalls_tidy (acalls_of_vc (hn := fun d => d == 69) (od := rnOd) Try.func18 rfl (by kernel_rfl) ?_))
  have ck := fun H => ccheck_ok l hs regs hrl H
  have h0 := @chk0 l regs
  obtain ⟨E, hE⟩ : ∃ E, E = renE l regs := ⟨_, rfl⟩
  rw [← hE]
  unfold renE at hE
  obtain ⟨a, ha⟩ : ∃ a, a = (chkM l regs).1 := ⟨_, rfl⟩
  obtain ⟨b, hb⟩ : ∃ b, b = (chkM l regs).2 := ⟨_, rfl⟩
  rw [← hb] at h0 hE
  simp only [← ha, ← hb] at ck
  simp only [Linear.cells] at ck
  clear ha hb
  by_cases hb0 : b = 0
  · rw [if_pos hb0] at hE
    subst hb0
    obtain ⟨hok, hbg⟩ := h0 rfl
    have ho := ((ok_iff l).1 hok).1
    have hlen := ((beg_iff ho).1 hbg).len
    have hlines := ho.lines
    have e1 := fun lv k H hk => each_ok l regs lv k l.params (fun v hv => by have := (ho.params v hv).2; omega) (by have := hs.params; omega) H hk
    have e2 := fun lv k H hk => each_ok l regs lv k l.rets (fun v hv => by have := (ho.rets v hv).2; omega) (by have := hs.rets; omega) H hk
    rw [map_rgN regs fun v hv => (ho.params v hv).1] at e1
    rw [map_rgN regs fun v hv => (ho.rets v hv).1] at e2
    have e3 := fun lv k x (hx : insOk l.vars x = true) H hk => renamed_ok l regs lv k x hx hlen H hk
    have e4 := fun lv k v (hx : v < (regs.length : Int)) H hk => reg_ok l regs lv k v hx H hk
    have hc := hs.code
    obtain ⟨ps, hps⟩ : ∃ ps, ps = l.params.map (rg regs) := ⟨_, rfl⟩
    obtain ⟨rs, hrs⟩ : ∃ rs, rs = l.rets.map (rg regs) := ⟨_, rfl⟩
    rw [← hps] at e1
    rw [← hrs] at e2
    unfold renL at hE
    rw [← hps, ← hrs] at hE
    clear hps hrs
    clear hok hbg h0
    have hE := Hid.mk hE
    have hu := Hid.mk hu
    have hlen := Hid.mk hlen
    have hk3 : ∀ a b, (H ++ [a, b, ckB l regs nilS])[H.length + 2]? = some (ckB l regs nilS) := fun a b => by simp
    simp -dsimp
    refine acallsW_det (ck _) ?_
    simp -dsimp [rnOd]
    refine callDW_intro (e1 nilS (H.length + 2) _ (hk3 _ _))  ?_
    simp -dsimp
    refine callDW_intro (e2 nilS (H.length + 2) _ (hk3 _ _)) ?_
    simp -dsimp
    have hk4 : ∀ a b c, (H ++ [a, b, ckB l regs nilS, c])[H.length + 2]? = some (ckB l regs nilS) := fun a b c => by simp
    refine ⟨⟨callDW_intro (e1 nilS (H.length + 2) _ (hk4 _ _ _)) ?_, callDW_intro (e2 nilS (H.length + 2) _ (hk4 _ _ _)) ?_⟩, ?_⟩
    · simp -dsimp
    · simp -dsimp
    clear e1 e2 ck
    obtain ⟨B, hB⟩ : ∃ B, B = H ++ [.box 25 l.cells, .box 25 [I 0, nilS, nilS, I 0, nilS], ckB l regs nilS] := ⟨_, rfl⟩
    have hkB : ∀ L, (B ++ L)[H.length + 2]? = some (ckB l regs nilS) := fun L => by rw [hB]; simp
    have hzB : B[H.length + 1]? = some (.box 25 [I 0, nilS, nilS, I 0, nilS]) := by rw [hB]; simp
    have hBl : B.length = H.length + 3 := by rw [hB]; simp
    refine loop_rule (hn := fun d => d == 69) (od := rnOd) (fun (i : Nat) f M => f 4 = .bp (H.length + 1) 0 ∧ f 9 = regF (H.length + 2) ∧ f 10 = .bp B.length 0 ∧ f 41 = Line.sl l.code ∧ f 42 = I l.code.length ∧ f 43 = I i ∧ i ≤ l.code.length ∧ ∃ h, Own 41 11 (B ++ [oB l ps rs (hrow h i)]) M h ((l.code.take i).map fun x => (renLine regs x).cells)) (fun i => l.code.length - i) (by kernel_rfl) 0 (by refine ⟨by simp, by simp, by simp [hBl], by simp, by simp, by simp, by omega, none, ?_⟩; rw [hB, List.append_assoc]; exact Own.nil1 41 11 _) ?_
    replace hB := Hid.mk hB
    rintro i f M ⟨f4, f9, f10, f41, f42, f43, hi, h, ow⟩
    have bk : M[H.length + 2]? = some (ckB l regs nilS) := ow.old (by simpa using hkB _)
    have b10 : M[B.length]? = some (oB l ps rs (hrow h i)) := ow.old (by simp)
    simp -dsimp [f4, f9, f10, f41, f42, f43]
    refine condVW_introD (fun hlt => ?_) (fun hlt => ?_)
    · have hlt' : i < l.code.length := by omega
      have hx := List.getElem?_eq_getElem hlt'
      have hxm : l.code[i] ∈ l.code := List.getElem_mem hlt'
      have htk : l.code.take (i + 1) = l.code.take i ++ [l.code[i]] := List.take_succ_eq_append_getElem hlt'
      have hlo := hlines _ hxm
      obtain ⟨x, hxe⟩ : ∃ x, x = l.code[i] := ⟨_, rfl⟩
      rw [← hxe] at hx hlo htk
      clear hxe hxm hlines
      replace htk := htk
      have g41 : (l.code.map Line.cells)[i]? = some x.cells := by rw [List.getElem?_map, hx]; rfl
      obtain ⟨kind, ins, var, label⟩ := x
      have b10 : ∀ L, (M ++ L)[B.length]? = some (oB l ps rs (hrow h i)) := fun L => get_app_old b10 L
      have bk : ∀ L, (M ++ L)[H.length + 2]? = some (ckB l regs nilS) := fun L => get_app_old bk L
      clear hx
      unfold lineOk at hlo
      simp only at hlo
      by_cases k4 : kind = 4
      · subst k4
        simp only [Int.reduceEq, if_false, if_true, or_self, Bool.and_eq_true] at hlo
        have hv := isVr_iff.1 hlo.1.2
        have q := rgN_in regs hv.1
        have hlen' := hlen.out
        simp -dsimp [f9, f10, f41, f42, f43, g41]
        refine acallsW_det (e4 nilS _ var (by omega) _ (bk _)) ?_
        simp -dsimp [q]
        simp -dsimp [f9, f10, f41, f42, f43, b10]
        refine app_own (ow.app _) (by simp; omega) rfl rfl (by simp; omega) (by simp; omega) ?_
        intro h' M' ow' _
        have b11 := ow'.old (show (B ++ [oB l ps rs (hrow h i)])[B.length]? = some (oB l ps rs (hrow h i)) by simp)
        have ow2 := own_box (b' := oB l ps rs (hrow h' (i + 1))) ow'
        have e : (((l.code.take i).map fun x => (renLine regs x).cells) ++ [(Line.mk 4 ins (rg regs var) label).cells]) = (l.code.take (i + 1)).map fun x => (renLine regs x).cells := by rw [htk, List.map_append]; simp [renLine]
        have ow3 : Own 41 11 (B ++ [oB l ps rs (hrow h' (i + 1))]) (M'.set B.length (oB l ps rs (hrow h' (i + 1)))) h' ((l.code.take (i + 1)).map fun x => (renLine regs x).cells) := by rw [← e]; exact ow2
        have e2 : ∀ c : List AV, (((l.code.take i).map fun x => (renLine regs x).cells) ++ [c]).length = i + 1 := fun c => by simp; omega
        rw [e2]
        simp -dsimp [f4, f9, f10, f41, f42, f43, b11]
        exact ⟨i + 1, by omega, wrapS (by omega), by omega, h', by rw [← List.map_take]; exact ow3⟩
      have d4 : (kind == 4) = false := by simpa using k4
      by_cases k1 : kind = 1
      · subst k1
        simp only [Int.reduceEq, if_false, if_true, or_self, Bool.and_eq_true] at hlo
        have cr := e3 nilS (H.length + 2) ins hlo.1 _ (bk [.box 41 (Line.mk 1 ins var label).cells])
        obtain ⟨y, hy⟩ : ∃ y, y = renIns regs ins := ⟨_, rfl⟩
        rw [← hy] at cr
        replace hy := Hid.mk hy
        simp -dsimp [f9, f10, f41, f42, f43, g41]
        refine acallsW_det cr ?_
        simp -dsimp [f9, f10, f41, f42, f43, b10]
        refine app_own (ow.app _) (by simp; omega) rfl rfl (by simp; omega) (by simp; omega) ?_
        intro h' M' ow' _
        have b11 := ow'.old (show (B ++ [oB l ps rs (hrow h i)])[B.length]? = some (oB l ps rs (hrow h i)) by simp)
        have ow2 := own_box (b' := oB l ps rs (hrow h' (i + 1))) ow'
        have e : (((l.code.take i).map fun x => (renLine regs x).cells) ++ [(Line.mk 1 y var label).cells]) = (l.code.take (i + 1)).map fun x => (renLine regs x).cells := by rw [htk, List.map_append]; simp [renLine, hy.out]
        have ow3 : Own 41 11 (B ++ [oB l ps rs (hrow h' (i + 1))]) (M'.set B.length (oB l ps rs (hrow h' (i + 1)))) h' ((l.code.take (i + 1)).map fun x => (renLine regs x).cells) := by rw [← e]; exact ow2
        have e2 : ∀ c : List AV, (((l.code.take i).map fun x => (renLine regs x).cells) ++ [c]).length = i + 1 := fun c => by simp; omega
        rw [e2]
        simp -dsimp [f4, f9, f10, f41, f42, f43, b11]
        exact ⟨i + 1, by omega, wrapS (by omega), by omega, h', by rw [← List.map_take]; exact ow3⟩
      have d1 : (kind == 1) = false := by simpa using k1
      have er : renLine regs ⟨kind, ins, var, label⟩ = ⟨kind, ins, var, label⟩ := by unfold renLine; simp [k1, k4]
      simp -dsimp [f9, f10, f41, f42, f43, g41, d1, d4]
      simp -dsimp [f9, f10, f41, f42, f43, b10]
      refine app_own (ow.app _) (by simp; omega) rfl rfl (by simp; omega) (by simp; omega) ?_
      intro h' M' ow' _
      have b11 := ow'.old (show (B ++ [oB l ps rs (hrow h i)])[B.length]? = some (oB l ps rs (hrow h i)) by simp)
      have ow2 := own_box (b' := oB l ps rs (hrow h' (i + 1))) ow'
      have e : (((l.code.take i).map fun x => (renLine regs x).cells) ++ [(Line.mk kind ins var label).cells]) = (l.code.take (i + 1)).map fun x => (renLine regs x).cells := by rw [htk, List.map_append]; simp [er]
      have ow3 : Own 41 11 (B ++ [oB l ps rs (hrow h' (i + 1))]) (M'.set B.length (oB l ps rs (hrow h' (i + 1)))) h' ((l.code.take (i + 1)).map fun x => (renLine regs x).cells) := by rw [← e]; exact ow2
      have e2 : ∀ c : List AV, (((l.code.take i).map fun x => (renLine regs x).cells) ++ [c]).length = i + 1 := fun c => by simp; omega
      rw [e2]
      simp -dsimp [f4, f9, f10, f41, f42, f43, b11]
      exact ⟨i + 1, by omega, wrapS (by omega), by omega, h', by rw [← List.map_take]; exact ow3⟩
    · have hi' : i = l.code.length := by omega
      subst hi'
      rw [List.take_of_length_le (Nat.le_refl _)] at ow
      have bz : M[H.length + 1]? = some (.box 25 [I 0, nilS, nilS, I 0, nilS]) := ow.old (get_app_old hzB _)
      have bz2 : ∀ b, (M.set (H.length + 1) b)[H.length + 1]? = some b := fun b => by rw [List.getElem?_set_self (lt_of_get bz)]
      simp -dsimp [f4, f10, b10, bz, bz2]
      have ow2 : Own 41 11 H M h (l.code.map fun x => (renLine regs x).cells) := by
        rw [hB.out, List.append_assoc] at ow
        exact ow.less
      refine tidy_rowIn hu.out (own_setNew ow2 (by omega) (fun e => by have := ow.new _ e; simp at this; omega)) (line_frzB _ _) (by simp) (fun k => by simp [AV.frz, frzL]) (by simp [AV.under, underL]) ⟨?_, rfl⟩
      rw [hE.out]
      simp
  · rw [if_neg hb0] at hE
    have hE := Hid.mk hE
    have hbb : (b != 0) = true := by simpa using hb0
    simp -dsimp
    refine acallsW_det (ck _) ?_
    simp -dsimp [hbb]
    exact tidy_same rfl ⟨_, .tupL (.cons (.aggL (.cons (.refl _) (.cons (.nil 1) (.cons (.nil 1) (.cons (.refl _) (.cons (.nil 11) .nil)))))) (.cons (.refl _) .nil)), by rw [hE.out]; simp, rfl⟩
end Go.Proofs
namespace Go.Proofs
open Go.Mu
end Go.Proofs
namespace Go.Proofs
open Go.Mu
end Go.Proofs
