/- A region whose order of evaluation is drawn, in which two operations that change something may come in either order. -/
import Derived.Test.YtganjkhdlehhdaaGreatFwQtoFwT
set_option linter.unusedVariables false
set_option linter.unusedSimpArgs false
namespace Go.Mu
section
variable {P : Program} {n : Nat} {pu : Nat → Bool} {ops : Array Oper} {Q : AQ}
structure Fork where
  pre : List Nat
  (i j : Nat)
  (li lj : List Nat)
  (pi pj : OPlan)
variable {hn : Nat → Bool}
end
end Go.Mu
namespace Go.Mu
open Go.RowKit (Below)
section
variable {P : Program}
end
end Go.Mu
namespace Go.Mu
open Go.RowKit (Below)
section
variable {P : Program} {n : Nat} {c : Code} {Q : AQ}
theorem awp_give {f : Fr} {H : List Blk} (k sz : Nat) (t : TypeId) (es : List (List AV)) (hk : H[k]? = some (.row t sz es)) (hz : es.flatten.all AV.frzB = true)
    (h : AWP P n c Q (fun t => (f t).frz k sz es) (frzH k sz es H) []) : AWP P n c Q f H [] := by
  intro ro hro B w0 cx0 cx a h1 h2 h3 h4 h5
  subst h3
  refine h ro hro B w0 cx0 (cx.frz k sz es) a (hrel_frz h1 hk hz) (h2.trans (le_frz hk)) rfl ⟨h4.1, fun t ht => rep_frz h1 hk hz (h4.2 t ht)⟩ ?_
  cases hd : a.defers with
  | nil => trivial
  | cons d l => rw [hd] at h5; exact h5.elim
theorem awp_weak {f f' : Fr} {H : List Blk} (hw : ∀ t, Weak (f t) (f' t)) (h : AWP P n c Q f' H []) : AWP P n c Q f H [] := by
  intro ro hro B w0 cx0 cx a h1 h2 h3 h4 h5
  exact h ro hro B w0 cx0 cx a h1 h2 h3 ⟨h4.1, fun t ht => (h4.2 t ht).weakens (hw t)⟩ h5
end
end Go.Mu
namespace Go.Mu
open Go.RowKit (Below)
section
variable {P : Program} {n : Nat} {c : Code} {Q : AQ}
theorem FRel.mono' {cx cx' : Cx} (hle : Le cx cx') {f : Fr} {a : Act} (h : FRel cx n f a) : FRel cx' n f a := ⟨h.1, fun t ht => (h.2 t ht).mono hle⟩
theorem awp_spare {f : Fr} {H : List Blk} (m : Nat) (h : AWP P n c Q f (H ++ List.replicate m .pend) []) : AWP P n c Q f H [] := by
  intro ro hro B w0 cx0 cx a h1 h2 h3 h4 h5
  subst h3
  refine h ro hro B w0 cx0 (cx.spare m) a (hrel_spare h1 m) (h2.trans (le_spare cx m)) rfl (h4.mono' (le_spare cx m)) ?_
  cases hd : a.defers with
  | nil => trivial
  | cons d l => rw [hd] at h5; exact h5.elim
def Cx.less (cx : Cx) (b : Nat) (t : TypeId) (cs : List AV) : Cx := { cx with H := cx.H.set b (.box t cs) }
theorem le_less {cx : Cx} {b : Nat} {t : TypeId} {cs cs' : List AV} (hb : cx.H[b]? = some (.box t cs)) : Le cx (cx.less b t cs') := by
  have hlt := (List.getElem?_eq_some_iff.1 hb).1
  refine ⟨fun _ _ _ _ h => h, fun _ h => h, fun k bl h hf => ?_, fun k t' sz es h => .inr ⟨es, ?_, Nat.le_refl _, fun _ => ⟨rfl, rfl⟩⟩⟩
  · by_cases hk : b = k
    · subst hk; exact ⟨.box t cs', by simp [Cx.less, hlt], rfl, rfl⟩
    · exact ⟨bl, by simp only [Cx.less]; rw [List.getElem?_set_ne hk]; exact h, hf, rfl⟩
  · have hk : b ≠ k := fun e => by subst e; rw [hb] at h; cases h
    simp only [Cx.less]; rw [List.getElem?_set_ne hk]; exact h
theorem hrel_less {B : Nat} {w0 : World} {cx : Cx} (h : HRel B w0 cx) {b : Nat} {t : TypeId} {cs cs' : List AV} (hb : cx.H[b]? = some (.box t cs)) (hw : WeakL cs cs') : HRel B w0 (cx.less b t cs') := by
  have hle := le_less (cs' := cs') hb
  have hlt := (List.getElem?_eq_some_iff.1 hb).1
  have key : ∀ (i : Nat) (bl : Blk), (cx.less b t cs').H[i]? = some bl → (i = b ∧ bl = .box t cs') ∨ (i ≠ b ∧ cx.H[i]? = some bl) := by
    intro i bl hi
    by_cases hk : b = i
    · subst hk; simp [Cx.less, hlt] at hi; exact .inl ⟨rfl, hi.symm⟩
    · simp only [Cx.less] at hi; rw [List.getElem?_set_ne hk] at hi; exact .inr ⟨Ne.symm hk, hi⟩
  have key2 : ∀ (i : Nat) (bl : Blk), (cx.less b t cs').H[i]? = some bl → bl.live = true → ∃ bl', cx.H[i]? = some bl' ∧ bl'.live = true := by
    intro i bl hi hl
    rcases key i bl hi with ⟨rfl, rfl⟩ | ⟨_, h2⟩
    · exact ⟨_, hb, rfl⟩
    · exact ⟨_, h2, hl⟩
  refine ⟨h.below, h.base, h.frz, fun i bl hi => ?_, fun i j b1 b2 a1 a2 l1 l2 he => ?_⟩
  · rcases key i bl hi with ⟨rfl, rfl⟩ | ⟨hne, hi'⟩
    · obtain ⟨h1, h2, vals, h3, h4⟩ := h.blk _ _ hb
      exact ⟨h1, h2, vals, h3, (h4.mono hle).weakens hw⟩
    · have hbr := h.blk i bl hi'
      exact hbr.mono hle fun hl => ⟨rfl, rfl, rfl, (hbr.lt hl).2.2⟩
  · obtain ⟨b1', a1', l1'⟩ := key2 i b1 a1 l1
    obtain ⟨b2', a2', l2'⟩ := key2 j b2 a2 l2
    exact h.inj i j b1' b2' a1' a2' l1' l2' he
theorem awp_weakbox {f : Fr} {H : List Blk} (b : Nat) (t : TypeId) (cs cs' : List AV) (hb : H[b]? = some (.box t cs)) (hw : WeakL cs cs') (h : AWP P n c Q f (H.set b (.box t cs')) []) : AWP P n c Q f H [] := by
  intro ro hro B w0 cx0 cx a h1 h2 h3 h4 h5
  subst h3
  refine h ro hro B w0 cx0 (cx.less b t cs') a (hrel_less h1 hb hw) (h2.trans (le_less hb)) rfl (h4.mono' (le_less hb)) ?_
  cases hd : a.defers with
  | nil => trivial
  | cons d l => rw [hd] at h5; exact h5.elim
def AV.frzS (k sz : Nat) (es : List (List AV)) (a : AV) : AV := if es = [] then a else a.frz k sz es
def gvS (sz : Nat) (es : List (List AV)) : AV := if es = [] then .v (.slice none 0 0) else .vs sz es
theorem Weak.gvS (sz : Nat) (es : List (List AV)) : Weak (Mu.gvS sz es) (.vs sz es) := by
  unfold Mu.gvS; split
  · rename_i h; subst h; exact .nil sz
  · exact .refl _
@[simp] theorem frzS_own (k sz : Nat) (es : List (List AV)) : (ownS k es).frzS k sz es = gvS sz es := by
  unfold AV.frzS gvS
  by_cases h : es = []
  · subst h; simp
  · rw [if_neg h, if_neg h, frz_own _ _ _ h]
theorem frzS_id {k sz n : Nat} {es : List (List AV)} (hn : n ≤ k) (a : AV) (h : a.under n = true) : a.frzS k sz es = a := by
  unfold AV.frzS; split
  · rfl
  · exact frz_id hn a h
@[simp] theorem frzS_v (k sz : Nat) (es : List (List AV)) (x : Value) : (AV.v x).frzS k sz es = .v x := frzS_id (Nat.zero_le _) _ rfl
@[simp] theorem frzS_vs (k sz sz' : Nat) (es es' : List (List AV)) : (AV.vs sz' es').frzS k sz es = .vs sz' es' := frzS_id (Nat.zero_le _) _ rfl
@[simp] theorem frzS_bp (k sz b o : Nat) (es : List (List AV)) : (AV.bp b o).frzS k sz es = .bp b o := by
  unfold AV.frzS; split <;> rfl
def Blk.frzS (k sz : Nat) (es : List (List AV)) (b : Blk) : Blk := if es = [] then b else b.frz k sz es
theorem blkS_id {k sz n : Nat} {es : List (List AV)} (hn : n ≤ k) (b : Blk) (h : b.under n = true) : b.frzS k sz es = b := by
  unfold Blk.frzS; split
  · rfl
  · exact frzB_id hn b h
theorem blkS_box (k sz : Nat) (es : List (List AV)) (t : TypeId) (cs : List AV) : (Blk.box t cs).frzS k sz es = .box t (cs.map (AV.frzS k sz es)) := by
  unfold Blk.frzS AV.frzS; split
  · simp
  · simp only [Blk.frz]
    congr 1
    induction cs with
    | nil => rfl
    | cons a l ih => simp only [frzL, List.map_cons, ih]
theorem awp_giveO {f : Fr} {N L : List Blk} (hu : underH N.length N = true) (j sz : Nat) (t : TypeId) (es : List (List AV)) (hj : L[j]? = some (ownB t sz es)) (hz : es.flatten.all AV.frzB = true)
    (h : AWP P n c Q (fun s => (f s).frzS (N.length + j) sz es) (N ++ (L.map (Blk.frzS (N.length + j) sz es)).set j .gone) []) : AWP P n c Q f (N ++ L) [] := by
  by_cases hes : es = []
  · subst hes
    rw [ownB_nil] at hj
    have h1 : (fun s => (f s).frzS (N.length + j) sz []) = f := by funext s; simp [AV.frzS]
    have h2 : L.map (Blk.frzS (N.length + j) sz []) = L := by
      conv => rhs; rw [← List.map_id L]
      exact List.map_congr_left fun b _ => by simp [Blk.frzS]
    rw [h1, h2] at h
    intro ro hro B w0 cx0 cx a b1 b2 b3 b4 b5
    have hlt := (List.getElem?_eq_some_iff.1 hj).1
    have hkj : cx.H[N.length + j]? = some .pend := by rw [b3, List.getElem?_append_right (by omega)]; simpa using hj
    -- the free handle is forgotten
    have hle : Le cx { cx with H := N ++ L.set j .gone } := by
      have hs : N ++ L.set j .gone = cx.H.set (N.length + j) .gone := by rw [b3, List.set_append, if_neg (by omega)]; simp
      refine ⟨fun _ _ _ _ h => h, fun _ h => h, fun k bl h hf => ?_, fun k t' sz es h => .inr ⟨es, ?_, Nat.le_refl _, fun _ => ⟨rfl, rfl⟩⟩⟩
      · have hk : N.length + j ≠ k := fun e => by subst e; rw [hkj] at h; cases h; cases hf
        exact ⟨bl, by show (N ++ L.set j .gone)[k]? = _; rw [hs, List.getElem?_set_ne hk]; exact h, hf, rfl⟩
      · have hk : N.length + j ≠ k := fun e => by subst e; rw [hkj] at h; cases h
        show (N ++ L.set j .gone)[k]? = _
        rw [hs, List.getElem?_set_ne hk]; exact h
    have key : ∀ (i : Nat) (bl : Blk), (N ++ L.set j .gone)[i]? = some bl → bl = .gone ∨ cx.H[i]? = some bl := by
      intro i bl hi
      have hs : N ++ L.set j .gone = cx.H.set (N.length + j) .gone := by rw [b3, List.set_append, if_neg (by omega)]; simp
      rw [hs] at hi
      by_cases hk : N.length + j = i
      · subst hk
        rw [List.getElem?_set_self (by rw [b3, List.length_append]; omega)] at hi
        cases hi; exact .inl rfl
      · rw [List.getElem?_set_ne hk] at hi; exact .inr hi
    have hr : HRel B w0 { cx with H := N ++ L.set j .gone } := by
      refine ⟨b1.below, b1.base, b1.frz, fun i bl hi => ?_, fun i k x1 x2 a1 a2 l1 l2 he => ?_⟩
      · rcases key i bl hi with rfl | hi'
        · trivial
        · have hbr := b1.blk i bl hi'
          exact hbr.mono hle fun hl => ⟨rfl, rfl, rfl, (hbr.lt hl).2.2⟩
      · rcases key i x1 a1 with rfl | a1'
        · cases l1
        · rcases key k x2 a2 with rfl | a2'
          · cases l2
          · exact b1.inj i k x1 x2 a1' a2' l1 l2 he
    refine h ro hro B w0 cx0 { cx with H := N ++ L.set j .gone } a hr (b2.trans hle) rfl (b4.mono' hle) ?_
    cases hd : a.defers with
    | nil => trivial
    | cons d l => rw [hd] at b5; exact b5.elim
  · rw [ownB, if_neg hes] at hj
    refine awp_give (N.length + j) sz t es (by rw [List.getElem?_append_right (by omega)]; simpa using hj) hz ?_
    rw [frzH_app j hu]
    have h1 : (fun s => (f s).frzS (N.length + j) sz es) = fun s => (f s).frz (N.length + j) sz es := by funext s; simp [AV.frzS, hes]
    have h2 : L.map (Blk.frzS (N.length + j) sz es) = L.map (Blk.frz (N.length + j) sz es) := List.map_congr_left fun b _ => by simp [Blk.frzS, hes]
    rw [h1, h2] at h
    exact h
end
end Go.Mu
namespace Go.Mu
inductive FT where
  | lin (p : OPlan)
  | fork (pre : List Nat) (ats : FT)
  | alt (i : Nat) (late : List Nat) (t more : FT)
  | none
section
variable {P : Program} {n : Nat} {pu : Nat → Bool} {ops : Array Oper} {Q : AQ}
variable {hn : Nat → Bool}
end
end Go.Mu
namespace Go.Mu
open Go.RowKit (Below)
section
variable {P : Program} {n : Nat} {Q : AQ}
theorem awp_giveBox {c : Code} {f : Fr} {N L : List Blk} (hu : underH N.length N = true) (j sz : Nat) (t : TypeId) (es : List (List AV)) (hj : L[j]? = some (ownB t sz es)) (hz : es.flatten.all AV.frzB = true)
    (b : Nat) (bt : TypeId) (cs cs' : List AV) (hb : L[b]? = some (.box bt cs)) (hbj : b ≠ j) (hw : WeakL (cs.map (AV.frzS (N.length + j) sz es)) cs')
    (h : ∀ L' f', (∀ s, f' s = (f s).frzS (N.length + j) sz es) → L'.length = L.length → L'[b]? = some (.box bt cs') → (∀ i x, i ≠ j → i ≠ b → L[i]? = some x → x.under N.length = true → L'[i]? = some x) → AWP P n c Q f' (N ++ L') []) : AWP P n c Q f (N ++ L) [] := by
  refine awp_giveO hu j sz t es hj hz ?_
  have hb1 : ((L.map (Blk.frzS (N.length + j) sz es)).set j .gone)[b]? = some (.box bt (cs.map (AV.frzS (N.length + j) sz es))) := by
    rw [List.getElem?_set_ne (Ne.symm hbj), List.getElem?_map, hb]
    simp only [Option.map_some, blkS_box]
  have hb2 : (N ++ (L.map (Blk.frzS (N.length + j) sz es)).set j .gone)[N.length + b]? = some (.box bt (cs.map (AV.frzS (N.length + j) sz es))) := by
    rw [List.getElem?_append_right (by omega)]; simpa using hb1
  refine awp_weakbox (N.length + b) bt _ cs' hb2 hw ?_
  rw [List.set_append, if_neg (by omega), Nat.add_sub_cancel_left]
  refine h _ _ (fun _ => rfl) (by simp) ?_ ?_
  · have hlt := (List.getElem?_eq_some_iff.1 hb1).1
    rw [List.getElem?_set_self hlt]
  · intro i x hij hib hx hux
    rw [List.getElem?_set_ne (Ne.symm hib), List.getElem?_set_ne (Ne.symm hij), List.getElem?_map, hx]
    simp only [Option.map_some]
    rw [blkS_id (n := N.length) (by omega) x hux]
theorem awp_giveRow {c : Code} {f : Fr} {N L : List Blk} (hu : underH N.length N = true) (j sz : Nat) (t : TypeId) (es : List (List AV)) (hj : L[j]? = some (.row t sz es)) (hz : es.flatten.all AV.frzB = true)
    (h : ∀ L' f', (∀ s, f' s = (f s).frz (N.length + j) sz es) → L'.length = L.length → (∀ i x, i ≠ j → L[i]? = some x → x.under N.length = true → L'[i]? = some x) → AWP P n c Q f' (N ++ L') []) : AWP P n c Q f (N ++ L) [] := by
  refine awp_give (N.length + j) sz t es (by rw [List.getElem?_append_right (by omega)]; simpa using hj) hz ?_
  rw [frzH_app j hu]
  refine h _ _ (fun _ => rfl) (by simp) ?_
  intro i x hij hx hux
  rw [List.getElem?_set_ne (Ne.symm hij), List.getElem?_map, hx]
  simp only [Option.map_some]
  rw [frzB_id (Nat.le_add_right _ _) x hux]
def M2 (H : List Blk) (c : Nat) (X o t : Blk) (L : List Blk) : List Blk := H.set c X ++ o :: t :: L
variable {H : List Blk} {c : Nat}
end
end Go.Mu
namespace Go.Mu
open Go.RowKit (Below)
mutual
def AV.bfz (k : Nat) (cs : List AV) : AV → AV
  | .bp k' off => if k' = k then .vp (cs.drop off) else .bp k' off
  | .fn f a b => .fn f (bfzL k cs a) (bfzL k cs b)
  | .ifc t x => .ifc t (AV.bfz k cs x)
  | .agg a => .agg (bfzL k cs a)
  | .tup a => .tup (bfzL k cs a)
  | x => x
def bfzL (k : Nat) (cs : List AV) : List AV → List AV
  | [] => []
  | c :: l => AV.bfz k cs c :: bfzL k cs l
end
theorem bfzL_map (k : Nat) (cs : List AV) (l : List AV) : bfzL k cs l = l.map (AV.bfz k cs) := by
  induction l with
  | nil => simp [bfzL]
  | cons c l ih => simp [bfzL, ih]
def Blk.bfz (k : Nat) (cs : List AV) : Blk → Blk
  | .box t a => .box t (bfzL k cs a)
  | .row t z rs => .row t z (rs.map (bfzL k cs))
  | .map ms => .map (ms.map fun p => (p.1, AV.bfz k cs p.2))
  | .mapg ms => .mapg (ms.map fun p => (p.1, AV.bfz k cs p.2))
  | b => b
def bfzH (k : Nat) (cs : List AV) (H : List Blk) : List Blk := (H.map (Blk.bfz k cs)).set k .gone
theorem bfz_fixed {k : Nat} {cs : List AV} (b : Blk) : (b.bfz k cs).fixed = b.fixed := by cases b <;> rfl
theorem bfz_live {k : Nat} {cs : List AV} (b : Blk) : (b.bfz k cs).live = b.live := by cases b <;> rfl
theorem bfzH_get {k : Nat} {cs : List AV} {H : List Blk} {i : Nat} {bl : Blk} (h : (bfzH k cs H)[i]? = some bl) : (i = k ∧ bl = .gone ∧ k < H.length) ∨ (i ≠ k ∧ ∃ b, H[i]? = some b ∧ bl = b.bfz k cs) := by
  unfold bfzH at h
  rw [List.getElem?_set] at h
  by_cases hi : k = i
  · subst hi
    simp at h
    exact .inl ⟨rfl, h.2.symm, h.1⟩
  · rw [if_neg hi, List.getElem?_map] at h
    cases hb : H[i]? with
    | none => rw [hb] at h; cases h
    | some b => rw [hb] at h; cases h; exact .inr ⟨fun e => hi e.symm, b, rfl, rfl⟩
theorem bfzH_other {k : Nat} {cs : List AV} {H : List Blk} {i : Nat} {b : Blk} (hi : i ≠ k) (h : H[i]? = some b) : (bfzH k cs H)[i]? = some (b.bfz k cs) := by
  unfold bfzH
  rw [List.getElem?_set, if_neg (fun e => hi e.symm), List.getElem?_map, h]; rfl
theorem bfzH_self {k : Nat} {cs : List AV} {H : List Blk} {b : Blk} (h : H[k]? = some b) : (bfzH k cs H)[k]? = some .gone := by
  unfold bfzH
  simp [List.getElem?_set, (List.getElem?_eq_some_iff.1 h).1]
def Cx.bfz (cx : Cx) (k : Nat) (cs : List AV) : Cx := { cx with Φ := fun b => cx.Φ b ∨ b = cx.κ k, H := bfzH k cs cx.H }
theorem le_bfz {cx : Cx} {k : Nat} {cs : List AV} {b : Blk} (hk : cx.H[k]? = some b) : Le cx (cx.bfz k cs) := by
  refine ⟨fun b off x _ hc => hc, fun _ h => .inl h, fun i bl h hf => ?_, fun i t z rs h => ?_⟩
  · by_cases hi : i = k
    · subst hi; exact ⟨.gone, bfzH_self hk, rfl, rfl⟩
    · exact ⟨_, bfzH_other hi h, by rw [bfz_fixed]; exact hf, rfl⟩
  · by_cases hi : i = k
    · subst hi; exact .inl ⟨.gone, bfzH_self hk, rfl⟩
    · exact .inr ⟨_, bfzH_other hi h, by simp, fun _ => ⟨rfl, rfl⟩⟩
def AV.frzF : AV → Bool
  | .fn _ fs cs => fs.all AV.frzB && cs.all AV.frzB
  | a => a.frzB
theorem Rep.strongF {cx : Cx} {a : AV} {y : Value} (h : Rep cx false a y) (ha : a.frzF = true) : Rep cx true a y := by
  cases h with
  | fn f fs cs vf vc hnf hrf hnc hrc =>
    simp only [AV.frzF, Bool.and_eq_true, List.all_eq_true] at ha
    exact .fn f fs cs vf vc hnf (fun j c x h1 h2 => (hrf j c x h1 h2).strong (ha.1 c (List.mem_of_getElem? h1))) hnc (fun j c x h1 h2 => (hrc j c x h1 h2).strong (ha.2 c (List.mem_of_getElem? h1)))
  | v => exact .v _
  | vs0 sz a cap => exact .vs0 sz a cap
  | vs sz es b o cap vals hf hz hcap hl hn ho hc hr => exact .vs sz es b o cap vals hf hz hcap hl hn ho hc hr
  | vx sz es b o vals hf hz hl hn ho hc hr => exact .vx sz es b o vals hf hz hl hn ho hc hr
  | vp cs b o vals hf hn hc hr => exact .vp cs b o vals hf hn hc hr
  | bp k off bl hk hf => simp [AV.frzF, AV.frzB] at ha
  | rp k ver i off y ho bl hk hp => simp [AV.frzF, AV.frzB] at ha
  | hs k off n ver y ho bl hk hp => simp [AV.frzF, AV.frzB] at ha
  | hm k bl hk hf => simp [AV.frzF, AV.frzB] at ha
  | hg k bl hk hf => simp [AV.frzF, AV.frzB] at ha
  | hi k bl hk hf => simp [AV.frzF, AV.frzB] at ha
  | yl k bl hk hf => simp [AV.frzF, AV.frzB] at ha
  | bs k off n cap bl hk hf hc => simp [AV.frzF, AV.frzB] at ha
  | ifc t x y h => exact Rep.strong (.ifc t x y h) (by simpa [AV.frzF] using ha)
  | agg cs vals hn hr => exact Rep.strong (.agg cs vals hn hr) (by simpa [AV.frzF] using ha)
  | tup cs vals hn hr => simp [AV.frzF, AV.frzB] at ha
  | junk y => exact .junk y
theorem RepL.strongF {cx : Cx} {cs : List AV} {vals : List Value} (h : RepL cx false cs vals) (ha : cs.all AV.frzF = true) : RepL cx true cs vals :=
  ⟨h.len, fun j c x h1 h2 => (h.rep j c x h1 h2).strongF (List.all_eq_true.1 ha _ (List.mem_of_getElem? h1))⟩
theorem rep_bfz {B : Nat} {w0 : World} {cx : Cx} (h : HRel B w0 cx) {k : Nat} {t : TypeId} {es : List AV} (hk : cx.H[k]? = some (.box t es)) (hz : es.all AV.frzF = true) {z : Bool} {a : AV} {y : Value} (hr : Rep cx z a y) :
    Rep (cx.bfz k es) z (a.bfz k es) y := by
  have hle : Le cx (cx.bfz k es) := le_bfz hk
  induction hr with
  | v x => exact .v x
  | vs0 s a cap => exact .vs0 s a cap
  | vs s rs b o cap vals hf hz hcap hl hn ho hc hr ih => exact Rep.mono hle (.vs s rs b o cap vals hf hz hcap hl hn ho hc hr)
  | vx s rs b o vals hf hz hl hn ho hc hr ih => exact Rep.mono hle (.vx s rs b o vals hf hz hl hn ho hc hr)
  | vp cs b o vals hf hn hc hr ih => exact Rep.mono hle (.vp cs b o vals hf hn hc hr)
  | bp k' off bl hk' hf =>
    simp only [AV.bfz]
    split
    · rename_i he
      subst he
      obtain ⟨b1, b2, vals, b3, b4⟩ := h.blk _ _ hk
      have b5 := (b4.strongF hz).mono hle
      refine .vp (es.drop off) (cx.κ k') off (vals.drop off) (.inr rfl) (by have := b4.len; simp; omega) (fun j x hj => ?_) (fun j c x h1 h2 => ?_)
      · show cx.w.cell? _ = _
        rw [List.getElem?_drop] at hj
        rw [cell_of_row _ _ _ _ _ _ b3]; simpa using hj
      · rw [List.getElem?_drop] at h1 h2
        exact b5.rep _ c x h1 h2
    · exact Rep.mono hle (.bp k' off bl hk' hf)
  | rp k' ver i off y ho bl hk' hp => exact Rep.mono hle (.rp k' ver i off y ho bl hk' hp)
  | hm k' bl hk' hf => exact Rep.mono hle (.hm k' bl hk' hf)
  | hg k' bl hk' hf => exact Rep.mono hle (.hg k' bl hk' hf)
  | hi k' bl hk' hf => exact Rep.mono hle (.hi k' bl hk' hf)
  | yl k' bl hk' hf => exact Rep.mono hle (.yl k' bl hk' hf)
  | bs k' off n cap bl hk' hf hc => exact Rep.mono hle (.bs k' off n cap bl hk' hf hc)
  | hs k' off n ver y ho bl hk' hp => exact Rep.mono hle (.hs k' off n ver y ho bl hk' hp)
  | fn f fs cs vf vc hnf hrf hnc hrc ihf ihc =>
    simp only [AV.bfz, bfzL_map]
    refine .fn f _ _ vf vc (by simpa using hnf) (fun j c x h1 h2 => ?_) (by simpa using hnc) (fun j c x h1 h2 => ?_)
    · rw [List.getElem?_map] at h1
      cases hc : fs[j]? with
      | none => rw [hc] at h1; cases h1
      | some c' => rw [hc] at h1; cases h1; exact ihf j c' x hc h2
    · rw [List.getElem?_map] at h1
      cases hc : cs[j]? with
      | none => rw [hc] at h1; cases h1
      | some c' => rw [hc] at h1; cases h1; exact ihc j c' x hc h2
  | ifc t x y h ih => simp only [AV.bfz]; exact .ifc t _ y ih
  | agg cs vals hn hr ih =>
    simp only [AV.bfz, bfzL_map]
    refine .agg _ vals (by simpa using hn) fun j c x h1 h2 => ?_
    rw [List.getElem?_map] at h1
    cases hc : cs[j]? with
    | none => rw [hc] at h1; cases h1
    | some c' => rw [hc] at h1; cases h1; exact ih j c' x hc h2
  | tup cs vals hn hr ih =>
    simp only [AV.bfz, bfzL_map]
    refine .tup _ vals (by simpa using hn) fun j c x h1 h2 => ?_
    rw [List.getElem?_map] at h1
    cases hc : cs[j]? with
    | none => rw [hc] at h1; cases h1
    | some c' => rw [hc] at h1; cases h1; exact ih j c' x hc h2
  | junk y => exact .junk y
theorem repL_bfz {B : Nat} {w0 : World} {cx : Cx} (h : HRel B w0 cx) {k : Nat} {t : TypeId} {es : List AV} (hk : cx.H[k]? = some (.box t es)) (hz : es.all AV.frzF = true) {z : Bool} {cs : List AV} {vals : List Value} (hr : RepL cx z cs vals) :
    RepL (cx.bfz k es) z (bfzL k es cs) vals := by
  rw [bfzL_map]
  refine ⟨by simpa using hr.len, fun j c x h1 h2 => ?_⟩
  rw [List.getElem?_map] at h1
  cases hc : cs[j]? with
  | none => rw [hc] at h1; cases h1
  | some c' => rw [hc] at h1; cases h1; exact rep_bfz h hk hz (hr.rep j c' x hc h2)
theorem flatten_bfzL (k : Nat) (es : List AV) (rs : List (List AV)) : (rs.map (bfzL k es)).flatten = bfzL k es rs.flatten := by
  rw [bfzL_map, List.map_flatten]
  congr 1
  refine List.map_congr_left fun r _ => bfzL_map k es r
theorem hrel_bfz {B : Nat} {w0 : World} {cx : Cx} (h : HRel B w0 cx) {k : Nat} {t : TypeId} {es : List AV} (hk : cx.H[k]? = some (.box t es)) (hz : es.all AV.frzF = true) : HRel B w0 (cx.bfz k es) := by
  have hle : Le cx (cx.bfz k es) := le_bfz hk
  refine ⟨h.below, h.base, fun b hf => ?_, fun i bl hi => ?_, fun i j b1 b2 a1 a2 l1 l2 he => ?_⟩
  · rcases hf with hf | rfl
    · exact h.frz b hf
    · exact ((h.blk k _ hk).lt rfl).2.1
  · rcases bfzH_get hi with ⟨rfl, rfl, _⟩ | ⟨hne, b, hb, rfl⟩
    · trivial
    · have hbi := h.blk i b hb
      have hΦ : b.live = true → ¬ (cx.bfz k es).Φ (cx.κ i) := by
        rintro hl (hf | he)
        · exact (hbi.lt hl).2.2 hf
        · exact hne (h.inj i k b _ hb hk hl rfl he)
      cases b with
      | box t' cs =>
        obtain ⟨h1, h2, vals, h3, h4⟩ := hbi
        exact ⟨h1, hΦ rfl, vals, h3, repL_bfz h hk hz h4⟩
      | row t' z rs =>
        obtain ⟨h1, h2, h3, h4, h5, h6, vals, h7, h8, h9, h10⟩ := hbi
        refine ⟨h1, hΦ rfl, h3, fun e he => ?_, by rw [List.length_map]; exact h5, h6, vals, h7, h8, ?_, h10⟩
        · obtain ⟨e', he', rfl⟩ := List.mem_map.1 he
          rw [bfzL_map]; simpa using h4 e' he'
        · rw [flatten_bfzL]; simpa using repL_bfz h hk hz h9
      | map ms =>
        obtain ⟨h1, h2, ents, h3, h4, h5⟩ := hbi
        refine ⟨h1, hΦ rfl, ents, h3, by simpa using h4, fun j p e a b => ?_⟩
        rw [List.getElem?_map] at a
        cases hc : ms[j]? with
        | none => rw [hc] at a; cases a
        | some p' =>
          rw [hc] at a; cases a
          obtain ⟨x1, x2, x3⟩ := h5 j p' e hc b
          exact ⟨x1, rep_bfz h hk hz x2, x3⟩
      | mapg ms =>
        obtain ⟨h1, h2, ents, c, h3, h4, h5, h6⟩ := hbi
        refine ⟨h1, hΦ rfl, ents, c, h3, by simpa using h4, fun j p e a b => ?_, h6⟩
        rw [List.getElem?_map] at a
        cases hc : ms[j]? with
        | none => rw [hc] at a; cases a
        | some p' =>
          rw [hc] at a; cases a
          obtain ⟨x1, x2⟩ := h5 j p' e hc b
          exact ⟨x1, rep_bfz h hk hz x2⟩
      | pend => trivial
      | gone => trivial
      | dfr o => obtain ⟨h1, h2, h3⟩ := hbi; exact ⟨h1, hΦ rfl, h3⟩
      | lp st pend n f ps assign body => obtain ⟨h1, h2, fn, tmps, d, h3, h4, h5⟩ := hbi; exact ⟨h1, hΦ rfl, fn, tmps, d, h3, h4, fun t ht => (h5 t ht).mono hle⟩
      | it km n seen =>
        obtain ⟨h1, h2, h3, h4⟩ := hbi
        refine ⟨h1, hΦ rfl, h3, fun m hm => ?_⟩
        obtain ⟨bl, a, b⟩ := h4 m hm
        obtain ⟨bl', a', b', _⟩ := hle.fixed m bl a b
        exact ⟨bl', a', b'⟩
  · rcases bfzH_get a1 with ⟨rfl, rfl, _⟩ | ⟨n1, c1, d1, rfl⟩
    · simp [Blk.live] at l1
    · rcases bfzH_get a2 with ⟨rfl, rfl, _⟩ | ⟨n2, c2, d2, rfl⟩
      · simp [Blk.live] at l2
      · rw [bfz_live] at l1 l2
        exact h.inj i j c1 c2 d1 d2 l1 l2 he
mutual
theorem bfz_under {k n : Nat} (h : n ≤ k) (cs : List AV) : ∀ (a : AV), a.under n = true → a.bfz k cs = a
  | .v _, _ => rfl
  | .vs _ _, _ => rfl
  | .vx _ _, _ => rfl
  | .vp _, _ => rfl
  | .bp k' _, hu => by simp only [AV.under, decide_eq_true_eq] at hu; simp only [AV.bfz]; rw [if_neg (by omega)]
  | .rp _ _ _ _, _ => rfl
  | .hs _ _ _ _, _ => rfl
  | .hm _, _ => rfl
  | .hg _, _ => rfl
  | .hi _, _ => rfl
  | .yl _, _ => rfl
  | .bs _ _ _, _ => rfl
  | .fn _ a b, hu => by simp only [AV.under, Bool.and_eq_true] at hu; simp only [AV.bfz]; rw [bfzL_under h cs a hu.1, bfzL_under h cs b hu.2]
  | .ifc _ x, hu => by simp only [AV.under] at hu; simp only [AV.bfz]; rw [bfz_under h cs x hu]
  | .agg a, hu => by simp only [AV.under] at hu; simp only [AV.bfz]; rw [bfzL_under h cs a hu]
  | .tup a, hu => by simp only [AV.under] at hu; simp only [AV.bfz]; rw [bfzL_under h cs a hu]
  | .junk, _ => rfl
theorem bfzL_under {k n : Nat} (h : n ≤ k) (cs : List AV) : ∀ (l : List AV), underL n l = true → bfzL k cs l = l
  | [], _ => rfl
  | a :: l, hu => by simp only [underL, Bool.and_eq_true] at hu; simp only [bfzL]; rw [bfz_under h cs a hu.1, bfzL_under h cs l hu.2]
end
theorem blk_bfz_under {k n : Nat} (h : n ≤ k) (cs : List AV) (b : Blk) (hu : b.under n = true) : b.bfz k cs = b := by
  cases b with
  | box t a => simp only [Blk.under] at hu; simp only [Blk.bfz]; rw [bfzL_under h cs a hu]
  | row t z rs =>
    simp only [Blk.under, List.all_eq_true] at hu
    simp only [Blk.bfz]
    rw [List.map_congr_left (g := id) (fun r hr => bfzL_under h cs r (hu r hr)), List.map_id]
  | map ms =>
    simp only [Blk.under, List.all_eq_true] at hu
    simp only [Blk.bfz]
    rw [List.map_congr_left (g := id) (fun p hp => by rw [bfz_under h cs p.2 (hu p hp)]; rfl), List.map_id]
  | mapg ms =>
    simp only [Blk.under, List.all_eq_true] at hu
    simp only [Blk.bfz]
    rw [List.map_congr_left (g := id) (fun p hp => by rw [bfz_under h cs p.2 (hu p hp)]; rfl), List.map_id]
  | _ => rfl
theorem acalls_boxed {P : Program} {fid : FuncId} {args : List AV} {H : List Blk} {a : AV} {t : TypeId} {cs : List AV} (hz : cs.all AV.frzF = true) (hu2 : (a.bfz H.length cs).under H.length = true)
    (h : ACalls P fid args H (fun e H' => e = .ret a ∧ H' = H ++ [.box t cs])) : ACalls P fid args H (fun e H' => e = .ret (a.bfz H.length cs) ∧ H' = H) := by
  intro B w0 cx vals h1 h2 h3
  have hu := h1.under
  rw [h2] at hu
  refine (h B w0 cx vals h1 h2 h3).mono fun e w' he => ?_
  cases e with
  | returned y =>
    obtain ⟨cx', r, rfl, b1, b2, b3, b4, b5⟩ := he
    cases b4
    have hk : cx'.H[H.length]? = some (.box t cs) := by rw [b5]; simp
    have c1 := hrel_bfz b1 hk hz
    have c2 := le_bfz (cs := cs) hk
    have c3 := rep_bfz b1 hk hz b3
    have c4 : (cx'.bfz H.length cs).H = H ++ [.gone] := by
      show bfzH H.length cs cx'.H = _
      rw [b5, bfzH, List.map_append]
      have e1 : H.map (Blk.bfz H.length cs) = H := by
        rw [List.map_congr_left (g := id) (fun b hb => blk_bfz_under (Nat.le_refl _) cs b (List.all_eq_true.1 hu b hb)), List.map_id]
      rw [e1]; simp
    have hle : Le cx ((cx'.bfz H.length cs).cut H) := le_cut (b2.trans c2) c4 (by rw [h2]; exact Nat.le_refl _)
    exact ⟨(cx'.bfz H.length cs).cut H, _, rfl, hrel_cut c1 c4 hu, hle, rep_cut c4 c3 hu2, rfl, rfl⟩
  | panicked ch =>
    obtain ⟨cx', x, y, rfl, b1, b2, hch, b3, b4, b5⟩ := he
    cases b4
  | outgrown => exact he
end Go.Mu
