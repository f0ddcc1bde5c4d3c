/- A region whose order of evaluation is drawn, in which two operations that change something may come in either order. -/
import Derived.Test.YtganjkhdlehhdaaFwQtoFwT
set_option linter.unusedVariables false
set_option linter.unusedSimpArgs false
namespace Go.Mu
section
variable {P : Program} {n : Nat} {pu : Nat → Bool} {ops : Array Oper} {Q : AQ}
theorem sinv_ready {hf : Oper → Bool} (hsm : ∀ (i : Nat) (o : Oper), ops[i]? = some o → smallO n ops o = true)
    (hlt : ∀ (j : Nat) (o : Oper), ops[j]? = some o → ∀ e ∈ o.after, Region.binds .any e = true → e.on < j) {done rem L : List Nat} {listed : Array Bool} {f fa : Fr} {H : List Blk} (hi : SInv P pu hf ops done rem L listed f fa H) (hn : Region.ready .any ops listed = []) : rem = [] ∧ L = [] := by
  have key : ∀ i, i < ops.size → listed.getD i false = true := by
    intro i
    induction i using Nat.strongRecOn with
    | ind i ih =>
      intro hlt'
      cases hl : listed.getD i false with
      | true => rfl
      | false =>
        exfalso
        have ho : ops[i]? = some (ops[i]'hlt') := Array.getElem?_eq_getElem hlt'
        have : i ∈ Region.ready .any ops listed := mem_ready.2 ⟨by rw [getD_tf (by rw [hi.size]; exact hlt')]; exact hl, _, ho, fun e he hb => ih e.on (hlt i _ ho e he hb) (Nat.lt_trans (hlt i _ ho e he hb) hlt')⟩
        rw [hn] at this; cases this
  constructor
  · refine List.eq_nil_iff_forall_not_mem.2 fun i hir => ?_
    have hl := hi.remlt i hir
    have := (hi.un i hl).2 (.inl hir)
    rw [key i hl] at this; cases this
  · refine List.eq_nil_iff_forall_not_mem.2 fun i hiL => ?_
    obtain ⟨_, o, ho, _⟩ := hi.good i hiL
    have hl := (Array.getElem?_eq_some_iff.1 ho).1
    have := (hi.un i hl).2 (.inr hiL)
    rw [key i hl] at this; cases this
theorem sinv_late {hf : Oper → Bool} (hsm : ∀ (i : Nat) (o : Oper), ops[i]? = some o → smallO n ops o = true)
    (hlt : ∀ (j : Nat) (o : Oper), ops[j]? = some o → ∀ e ∈ o.after, Region.binds .any e = true → e.on < j) {done rem L : List Nat} {listed : Array Bool} {f fa : Fr} {H : List Blk} {i : Nat} (hi : SInv P pu hf ops done rem L listed f fa H) (hr : i ∈ Region.ready .any ops listed) (hiL : i ∈ L) :
      ∃ o r, ops[i]? = some o ∧ pu i = true ∧ StepD P ops o fa H r ∧ SInv P pu hf ops done rem (L.erase i) (listed.setIfInBounds i true) f (updO fa o.dst r) H := by
  obtain ⟨hirem, o, ho, hpu, hl1, hl2, r, hr1, hr2, hr3⟩ := hi.good i hiL
  have hlti := (Array.getElem?_eq_some_iff.1 ho).1
  obtain ⟨m1, o', m2, m3⟩ := mem_ready.1 hr
  rw [ho] at m2; cases m2
  have hag : ∀ t ∈ o.looksAt ops, f t = fa t := by
    intro t ht
    refine (hi.agree t fun k hk ok hok hd => ?_).symm
    obtain ⟨_, o2, ho2, _, g1, _⟩ := hi.good k hk
    rw [hok] at ho2; cases ho2
    have hre := g1 i o t ho hd ht
    have hkl := reach_listed hi.closed hre fun o3 h3 e he hb => by rw [ho] at h3; cases h3; exact m3 e he hb
    have := (hi.un k (Array.getElem?_eq_some_iff.1 hok).1).2 (.inr hk)
    rw [hkl] at this; cases this
  refine ⟨o, r, ho, hpu, stepD_congr (hsm i o ho) hag hr1, by simp [hi.size], fun k hk => ?_, hi.remlt, closed_set hi.closed hr, hi.dn, hi.dclosed, hi.nodup.erase i, hi.rnodup, fun k hk => hi.good k (List.mem_of_mem_erase hk), fun t ht => ?_⟩
  · rw [getD_set (by rw [hi.size]; exact hlti), hi.nodup.mem_erase_iff]
    by_cases hki : k = i
    · subst hki; simp [hirem]
    · rw [if_neg hki, hi.un k hk]; simp [hki]
  · cases hd : o.dst with
    | none =>
      refine hi.agree t fun k hk ok hok => ?_
      by_cases hki : k = i
      · subst hki; rw [ho] at hok; cases hok; rw [hd]; simp
      · exact ht k (hi.nodup.mem_erase_iff.2 ⟨hki, hk⟩) ok hok
    | some d =>
      simp only [updO, upd]
      by_cases htd : t = d
      · subst htd; rw [if_pos rfl]; exact (hr3 _ hd).symm
      · rw [if_neg htd]
        refine hi.agree t fun k hk ok hok => ?_
        by_cases hki : k = i
        · subst hki; rw [ho] at hok; cases hok; rw [hd]; simpa using fun e => htd e.symm
        · exact ht k (hi.nodup.mem_erase_iff.2 ⟨hki, hk⟩) ok hok
structure Fork where
  pre : List Nat
  (i j : Nat)
  (li lj : List Nat)
  (pi pj : OPlan)
variable {hn : Nat → Bool}
end
end Go.Mu
namespace Go.Mu
open Go.RowKit (Below)
section
variable {P : Program}
end
end Go.Mu
namespace Go.Mu
open Go.RowKit (Below)
section
variable {P : Program} {n : Nat} {c : Code} {Q : AQ}
theorem awp_give {f : Fr} {H : List Blk} (k sz : Nat) (t : TypeId) (es : List (List AV)) (hk : H[k]? = some (.row t sz es)) (hz : es.flatten.all AV.frzB = true)
    (h : AWP P n c Q (fun t => (f t).frz k sz es) (frzH k sz es H) []) : AWP P n c Q f H [] := by
  intro ro hro B w0 cx0 cx a h1 h2 h3 h4 h5
  subst h3
  refine h ro hro B w0 cx0 (cx.frz k sz es) a (hrel_frz h1 hk hz) (h2.trans (le_frz hk)) rfl ⟨h4.1, fun t ht => rep_frz h1 hk hz (h4.2 t ht)⟩ ?_
  cases hd : a.defers with
  | nil => trivial
  | cons d l => rw [hd] at h5; exact h5.elim
end
end Go.Mu
namespace Go.Mu
open Go.RowKit (Below)
section
variable {P : Program} {n : Nat} {c : Code} {Q : AQ}
theorem FRel.mono' {cx cx' : Cx} (hle : Le cx cx') {f : Fr} {a : Act} (h : FRel cx n f a) : FRel cx' n f a := ⟨h.1, fun t ht => (h.2 t ht).mono hle⟩
theorem awp_spare {f : Fr} {H : List Blk} (m : Nat) (h : AWP P n c Q f (H ++ List.replicate m .pend) []) : AWP P n c Q f H [] := by
  intro ro hro B w0 cx0 cx a h1 h2 h3 h4 h5
  subst h3
  refine h ro hro B w0 cx0 (cx.spare m) a (hrel_spare h1 m) (h2.trans (le_spare cx m)) rfl (h4.mono' (le_spare cx m)) ?_
  cases hd : a.defers with
  | nil => trivial
  | cons d l => rw [hd] at h5; exact h5.elim
def Cx.less (cx : Cx) (b : Nat) (t : TypeId) (cs : List AV) : Cx := { cx with H := cx.H.set b (.box t cs) }
theorem le_less {cx : Cx} {b : Nat} {t : TypeId} {cs cs' : List AV} (hb : cx.H[b]? = some (.box t cs)) : Le cx (cx.less b t cs') := by
  have hlt := (List.getElem?_eq_some_iff.1 hb).1
  refine ⟨fun _ _ _ _ h => h, fun _ h => h, fun k bl h hf => ?_, fun k t' sz es h => .inr ⟨es, ?_, Nat.le_refl _, fun _ => ⟨rfl, rfl⟩⟩⟩
  · by_cases hk : b = k
    · subst hk; exact ⟨.box t cs', by simp [Cx.less, hlt], rfl, rfl⟩
    · exact ⟨bl, by simp only [Cx.less]; rw [List.getElem?_set_ne hk]; exact h, hf, rfl⟩
  · have hk : b ≠ k := fun e => by subst e; rw [hb] at h; cases h
    simp only [Cx.less]; rw [List.getElem?_set_ne hk]; exact h
theorem hrel_less {B : Nat} {w0 : World} {cx : Cx} (h : HRel B w0 cx) {b : Nat} {t : TypeId} {cs cs' : List AV} (hb : cx.H[b]? = some (.box t cs)) (hw : WeakL cs cs') : HRel B w0 (cx.less b t cs') := by
  have hle := le_less (cs' := cs') hb
  have hlt := (List.getElem?_eq_some_iff.1 hb).1
  have key : ∀ (i : Nat) (bl : Blk), (cx.less b t cs').H[i]? = some bl → (i = b ∧ bl = .box t cs') ∨ (i ≠ b ∧ cx.H[i]? = some bl) := by
    intro i bl hi
    by_cases hk : b = i
    · subst hk; simp [Cx.less, hlt] at hi; exact .inl ⟨rfl, hi.symm⟩
    · simp only [Cx.less] at hi; rw [List.getElem?_set_ne hk] at hi; exact .inr ⟨Ne.symm hk, hi⟩
  have key2 : ∀ (i : Nat) (bl : Blk), (cx.less b t cs').H[i]? = some bl → bl.live = true → ∃ bl', cx.H[i]? = some bl' ∧ bl'.live = true := by
    intro i bl hi hl
    rcases key i bl hi with ⟨rfl, rfl⟩ | ⟨_, h2⟩
    · exact ⟨_, hb, rfl⟩
    · exact ⟨_, h2, hl⟩
  refine ⟨h.below, h.base, h.frz, fun i bl hi => ?_, fun i j b1 b2 a1 a2 l1 l2 he => ?_⟩
  · rcases key i bl hi with ⟨rfl, rfl⟩ | ⟨hne, hi'⟩
    · obtain ⟨h1, h2, vals, h3, h4⟩ := h.blk _ _ hb
      exact ⟨h1, h2, vals, h3, (h4.mono hle).weakens hw⟩
    · have hbr := h.blk i bl hi'
      exact hbr.mono hle fun hl => ⟨rfl, rfl, rfl, (hbr.lt hl).2.2⟩
  · obtain ⟨b1', a1', l1'⟩ := key2 i b1 a1 l1
    obtain ⟨b2', a2', l2'⟩ := key2 j b2 a2 l2
    exact h.inj i j b1' b2' a1' a2' l1' l2' he
theorem awp_weakbox {f : Fr} {H : List Blk} (b : Nat) (t : TypeId) (cs cs' : List AV) (hb : H[b]? = some (.box t cs)) (hw : WeakL cs cs') (h : AWP P n c Q f (H.set b (.box t cs')) []) : AWP P n c Q f H [] := by
  intro ro hro B w0 cx0 cx a h1 h2 h3 h4 h5
  subst h3
  refine h ro hro B w0 cx0 (cx.less b t cs') a (hrel_less h1 hb hw) (h2.trans (le_less hb)) rfl (h4.mono' (le_less hb)) ?_
  cases hd : a.defers with
  | nil => trivial
  | cons d l => rw [hd] at h5; exact h5.elim
def AV.frzS (k sz : Nat) (es : List (List AV)) (a : AV) : AV := if es = [] then a else a.frz k sz es
def gvS (sz : Nat) (es : List (List AV)) : AV := if es = [] then .v (.slice none 0 0) else .vs sz es
theorem Weak.gvS (sz : Nat) (es : List (List AV)) : Weak (Mu.gvS sz es) (.vs sz es) := by
  unfold Mu.gvS; split
  · rename_i h; subst h; exact .nil sz
  · exact .refl _
@[simp] theorem frzS_own (k sz : Nat) (es : List (List AV)) : (ownS k es).frzS k sz es = gvS sz es := by
  unfold AV.frzS gvS
  by_cases h : es = []
  · subst h; simp
  · rw [if_neg h, if_neg h, frz_own _ _ _ h]
theorem frzS_id {k sz n : Nat} {es : List (List AV)} (hn : n ≤ k) (a : AV) (h : a.under n = true) : a.frzS k sz es = a := by
  unfold AV.frzS; split
  · rfl
  · exact frz_id hn a h
@[simp] theorem frzS_v (k sz : Nat) (es : List (List AV)) (x : Value) : (AV.v x).frzS k sz es = .v x := frzS_id (Nat.zero_le _) _ rfl
@[simp] theorem frzS_bp (k sz b o : Nat) (es : List (List AV)) : (AV.bp b o).frzS k sz es = .bp b o := by
  unfold AV.frzS; split <;> rfl
def Blk.frzS (k sz : Nat) (es : List (List AV)) (b : Blk) : Blk := if es = [] then b else b.frz k sz es
theorem blkS_id {k sz n : Nat} {es : List (List AV)} (hn : n ≤ k) (b : Blk) (h : b.under n = true) : b.frzS k sz es = b := by
  unfold Blk.frzS; split
  · rfl
  · exact frzB_id hn b h
theorem blkS_box (k sz : Nat) (es : List (List AV)) (t : TypeId) (cs : List AV) : (Blk.box t cs).frzS k sz es = .box t (cs.map (AV.frzS k sz es)) := by
  unfold Blk.frzS AV.frzS; split
  · simp
  · simp only [Blk.frz]
    congr 1
    induction cs with
    | nil => rfl
    | cons a l ih => simp only [frzL, List.map_cons, ih]
theorem awp_giveO {f : Fr} {N L : List Blk} (hu : underH N.length N = true) (j sz : Nat) (t : TypeId) (es : List (List AV)) (hj : L[j]? = some (ownB t sz es)) (hz : es.flatten.all AV.frzB = true)
    (h : AWP P n c Q (fun s => (f s).frzS (N.length + j) sz es) (N ++ (L.map (Blk.frzS (N.length + j) sz es)).set j .gone) []) : AWP P n c Q f (N ++ L) [] := by
  by_cases hes : es = []
  · subst hes
    rw [ownB_nil] at hj
    have h1 : (fun s => (f s).frzS (N.length + j) sz []) = f := by funext s; simp [AV.frzS]
    have h2 : L.map (Blk.frzS (N.length + j) sz []) = L := by
      conv => rhs; rw [← List.map_id L]
      exact List.map_congr_left fun b _ => by simp [Blk.frzS]
    rw [h1, h2] at h
    intro ro hro B w0 cx0 cx a b1 b2 b3 b4 b5
    have hlt := (List.getElem?_eq_some_iff.1 hj).1
    have hkj : cx.H[N.length + j]? = some .pend := by rw [b3, List.getElem?_append_right (by omega)]; simpa using hj
    -- the free handle is forgotten
    have hle : Le cx { cx with H := N ++ L.set j .gone } := by
      have hs : N ++ L.set j .gone = cx.H.set (N.length + j) .gone := by rw [b3, List.set_append, if_neg (by omega)]; simp
      refine ⟨fun _ _ _ _ h => h, fun _ h => h, fun k bl h hf => ?_, fun k t' sz es h => .inr ⟨es, ?_, Nat.le_refl _, fun _ => ⟨rfl, rfl⟩⟩⟩
      · have hk : N.length + j ≠ k := fun e => by subst e; rw [hkj] at h; cases h; cases hf
        exact ⟨bl, by show (N ++ L.set j .gone)[k]? = _; rw [hs, List.getElem?_set_ne hk]; exact h, hf, rfl⟩
      · have hk : N.length + j ≠ k := fun e => by subst e; rw [hkj] at h; cases h
        show (N ++ L.set j .gone)[k]? = _
        rw [hs, List.getElem?_set_ne hk]; exact h
    have key : ∀ (i : Nat) (bl : Blk), (N ++ L.set j .gone)[i]? = some bl → bl = .gone ∨ cx.H[i]? = some bl := by
      intro i bl hi
      have hs : N ++ L.set j .gone = cx.H.set (N.length + j) .gone := by rw [b3, List.set_append, if_neg (by omega)]; simp
      rw [hs] at hi
      by_cases hk : N.length + j = i
      · subst hk
        rw [List.getElem?_set_self (by rw [b3, List.length_append]; omega)] at hi
        cases hi; exact .inl rfl
      · rw [List.getElem?_set_ne hk] at hi; exact .inr hi
    have hr : HRel B w0 { cx with H := N ++ L.set j .gone } := by
      refine ⟨b1.below, b1.base, b1.frz, fun i bl hi => ?_, fun i k x1 x2 a1 a2 l1 l2 he => ?_⟩
      · rcases key i bl hi with rfl | hi'
        · trivial
        · have hbr := b1.blk i bl hi'
          exact hbr.mono hle fun hl => ⟨rfl, rfl, rfl, (hbr.lt hl).2.2⟩
      · rcases key i x1 a1 with rfl | a1'
        · cases l1
        · rcases key k x2 a2 with rfl | a2'
          · cases l2
          · exact b1.inj i k x1 x2 a1' a2' l1 l2 he
    refine h ro hro B w0 cx0 { cx with H := N ++ L.set j .gone } a hr (b2.trans hle) rfl (b4.mono' hle) ?_
    cases hd : a.defers with
    | nil => trivial
    | cons d l => rw [hd] at b5; exact b5.elim
  · rw [ownB, if_neg hes] at hj
    refine awp_give (N.length + j) sz t es (by rw [List.getElem?_append_right (by omega)]; simpa using hj) hz ?_
    rw [frzH_app j hu]
    have h1 : (fun s => (f s).frzS (N.length + j) sz es) = fun s => (f s).frz (N.length + j) sz es := by funext s; simp [AV.frzS, hes]
    have h2 : L.map (Blk.frzS (N.length + j) sz es) = L.map (Blk.frz (N.length + j) sz es) := List.map_congr_left fun b _ => by simp [Blk.frzS, hes]
    rw [h1, h2] at h
    exact h
end
end Go.Mu
namespace Go.Mu
inductive FT where
  | lin (p : OPlan)
  | fork (pre : List Nat) (ats : FT)
  | alt (i : Nat) (late : List Nat) (t more : FT)
  | none
def FT.heads : FT → List Nat
  | .alt i _ _ more => i :: more.heads
  | _ => []
def FT.top : FT → Bool
  | .lin _ | .fork .. => true
  | _ => false
section
variable {P : Program} {n : Nat} {pu : Nat → Bool} {ops : Array Oper} {Q : AQ}
theorem vx_impK {tab : List (Nat × Oper × Nat)} (htab : TabOk ops tab) {hf : Oper → Bool} (hsm : ∀ (i : Nat) (o : Oper), ops[i]? = some o → smallO n ops o = true)
    (hlt : ∀ (j : Nat) (o : Oper), ops[j]? = some o → ∀ e ∈ o.after, Region.binds .any e = true → e.on < j) {ds : List ADef} {K : Fr → List Blk → Prop} {fuel : Nat} {done rem L : List Nat} {listed : Array Bool} {f fa : Fr} {H : List Blk} {i0 : Nat} {lt : List Nat} {oi : Oper}
    (hi : SInv P pu hf ops done rem L listed f fa H) (hir : i0 ∈ Region.ready .any ops listed) (ho0 : ops[i0]? = some oi) (hpu : pu i0 = false) (hrd : readyB ops rem i0 = true)
    (hop2 : (done.all fun j => (maskOf tab i0).testBit j || !pu j || (match ops[j]? with | none => false | some oj => pu j && !lookB ops oj oi && (lt.contains j || hf oj))) = true)
    (hrest : ∀ (L : List Nat) (listed : Array Bool) (f fa : Fr) (H : List Blk), SInv P pu hf ops (i0 :: done) (rem.erase i0) L listed f fa H → (rem.erase i0).length + L.length ≤ fuel → K f H → AA P pu ops Q ds fuel listed fa H) (hfu : rem.length + L.length ≤ fuel + 1)
    (hv : StepB P ops oi f H ds Q (fun f' H' => (∀ j ∈ lt, ∀ oj, ops[j]? = some oj → ∃ r, StepD P ops oj f' H' r ∧ ∀ d, oj.dst = some d → f' d = r) ∧ K f' H')) :
    StepB P ops oi fa H ds Q (fun f' H' => AA P pu ops Q ds fuel (listed.setIfInBounds i0 true) f' H') := by
  have hrd' := hrd
  simp only [readyB, Bool.and_eq_true, List.contains_iff_mem] at hrd'
  obtain ⟨hi0r, hedges⟩ := hrd'
  have hi0l := hi.remlt _ hi0r
  have hlen0 := List.length_erase_of_mem hi0r
  have hpos0 := List.length_pos_of_mem hi0r
  rw [ho0] at hedges
  simp only at hedges
  simp only [List.all_eq_true, Bool.or_eq_true] at hop2
  have hed : ∀ e ∈ oi.after, Region.binds .any e = true → e.on ∉ rem := by
    intro e he hb hm
    have := List.all_eq_true.1 hedges e (by simpa using he)
    simp only [hb, Bool.not_true, Bool.false_or, Bool.and_eq_true, Bool.not_eq_true'] at this
    rw [List.contains_iff_mem.2 hm] at this; exact absurd this.1 (by simp)
  have hdn : ∀ i, i < ops.size → (i ∈ i0 :: done ↔ i ∉ rem.erase i0) := by
    intro i hil
    rw [hi.rnodup.mem_erase_iff, List.mem_cons, hi.dn i hil]
    by_cases h : i = i0
    · subst h; simp
    · simp [h]
  have hdc : ∀ i o, ops[i]? = some o → i ∉ rem.erase i0 → ∀ e ∈ o.after, Region.binds .any e = true → e.on ∉ rem.erase i0 := by
    intro i o ho hnm e he hb hm
    have hm' := List.mem_of_mem_erase hm
    by_cases h : i = i0
    · subst h; rw [ho0] at ho; cases ho; exact hed e he hb hm'
    · refine hi.dclosed i o ho (fun hir => hnm (hi.rnodup.mem_erase_iff.2 ⟨h, hir⟩)) e he hb hm'
  obtain ⟨m1, o, m2, m3⟩ := mem_ready.1 hir
  have hil := (Array.getElem?_eq_some_iff.1 m2).1
  have hag : ∀ t ∈ oi.looksAt ops, f t = fa t := by
    intro t ht
    refine (hi.agree t fun k hk ok hok hd => ?_).symm
    obtain ⟨_, o2, ho2, _, g1, _⟩ := hi.good k hk
    rw [hok] at ho2; cases ho2
    have hre := g1 i0 oi t ho0 hd ht
    have hkl := reach_listed hi.closed hre fun o3 h3 e he hb => by rw [m2] at h3; cases h3; exact m3 e he hb
    have := (hi.un k (Array.getElem?_eq_some_iff.1 hok).1).2 (.inr hk)
    rw [hkl] at this; cases this
  rw [ho0] at m2; cases m2
  have hmask : maskFr ops f = maskFr ops fa := by
    funext t
    unfold maskFr
    split
    · rfl
    · rename_i hno
      refine (hi.agree t fun j hj o ho hd => hno ?_).symm
      rw [Array.any_eq_true']
      exact ⟨o, Array.mem_of_getElem? ho, by simp [hd]⟩
  refine stepB_congr (hsm _ _ ho0) hag hmask (fun r H' hk => ?_) hv
  obtain ⟨hlate, hv'⟩ := hk
  refine hrest L _ (updO f oi.dst r) (updO fa oi.dst r) H' ?_ (by omega) hv'
  refine ⟨by simp [hi.size], fun k hkl => ?_, fun k h => hi.remlt k (List.mem_of_mem_erase h), closed_set hi.closed hir, hdn, hdc, hi.nodup, hi.rnodup.erase i0, fun j hj => ?_, fun t ht => ?_⟩
  · rw [getD_set (by rw [hi.size]; exact hi0l), hi.rnodup.mem_erase_iff]
    by_cases h : k = i0
    · subst h; simp; exact fun h => (hi.good k h).1 hi0r
    · rw [if_neg h, hi.un k hkl]; simp [h]
  · obtain ⟨hjr, o, ho, g1, g2, g3, r', h1, h2, h3⟩ := hi.good j hj
    have hjl := (Array.getElem?_eq_some_iff.1 ho).1
    have hjd : j ∈ done := (hi.dn j hjl).2 hjr
    have hnre : (maskOf tab i0).testBit j ≠ true := fun h => by
      have := reach_listed hi.closed (maskOf_spec htab h) fun o' ho' e he hb => m3 e (by rw [ho0] at ho'; cases ho'; exact he) hb
      have h2 := (hi.un j hjl).2 (.inr hj)
      rw [this] at h2; cases h2
    have hcl := (hop2 j hjd).resolve_left (fun h => h.elim hnre fun h => by rw [(hi.good j hj).2.choose_spec.2.1] at h; cases h)
    rw [ho] at hcl
    simp only [Bool.and_eq_true, Bool.or_eq_true, Bool.not_eq_true'] at hcl
    obtain ⟨⟨_, hlook⟩, hlf⟩ := hcl
    have hun : ∀ t ∈ o.looksAt ops, f t = updO f oi.dst r t := by
      intro t ht
      refine (updO_of_not (l := o.looksAt ops) (fun d hd hm => ?_) t ht).symm
      simp only [lookB, hd] at hlook
      rw [List.contains_iff_mem.2 hm] at hlook; cases hlook
    have hdst : ∀ d, o.dst = some d → updO f oi.dst r d = f d := by
      intro d hd
      have hne : oi.dst ≠ some d := g3 i0 oi d ho0 (fun e => hjr (e ▸ hi0r)) hd
      cases hd0 : oi.dst with
      | none => rfl
      | some d0 => simp only [updO, upd]; rw [if_neg]; rintro rfl; exact hne hd0
    refine ⟨fun h => hjr (List.mem_of_mem_erase h), o, ho, g1, g2, g3, ?_⟩
    by_cases hh : hf o = true
    · exact ⟨r', stepD_congr (hsm _ _ ho) hun (h2 hh H'), fun h H'' => stepD_congr (hsm _ _ ho) hun (h2 h H''), fun d hd => by rw [hdst d hd]; exact h3 d hd⟩
    · have hjlate : j ∈ lt := List.contains_iff_mem.1 (hlf.resolve_right hh)
      obtain ⟨r2, q1, q2⟩ := hlate j hjlate o ho
      exact ⟨r2, q1, fun h => absurd h hh, q2⟩
  · cases hd0 : oi.dst with
    | none => exact hi.agree t ht
    | some d0 =>
      simp only [updO, upd]
      by_cases htd : t = d0
      · rw [if_pos htd, if_pos htd]
      · rw [if_neg htd, if_neg htd]; exact hi.agree t ht
def planP (pu : Nat → Bool) (ops : Array Oper) (tab : List (Nat × Oper × Nat)) (k : List Nat → List Nat → Bool) : List Nat → List Nat → List Nat → Bool
  | done, rem, [] => k done rem
  | done, rem, i :: rest => readyB ops rem i && pu i && (match ops[i]? with | none => false | some oi => aloneB ops tab i oi) && planP pu ops tab k (i :: done) (rem.erase i) rest
def VP (P : Program) (hf : Oper → Bool) (ops : Array Oper) (k : Fr → List Blk → Prop) : List Nat → Fr → List Blk → Prop
  | [], f, H => k f H
  | i :: rest, f, H => match ops[i]? with
    | none => False
    | some o => ∃ r, StepD P ops o f H r ∧ (hf o = true → ∀ H', StepD P ops o f H' r) ∧ VP P hf ops k rest (updO f o.dst r) H
def planT (pu : Nat → Bool) (hf : Oper → Bool) (ops : Array Oper) (tab : List (Nat × Oper × Nat)) : FT → List Nat → List Nat → Bool
  | .lin p, done, rem => planX pu hf ops tab done rem p
  | .fork pre ats, done, rem => planP pu ops tab (fun done rem => (rem.all fun x => ats.heads.any fun h => x == h || (maskOf tab x).testBit h) && ats.heads.all (fun h => rem.contains h) && !ats.heads.isEmpty && planT pu hf ops tab ats done rem) done rem pre
  | .alt i lt t more, done, rem => readyB ops rem i && !pu i && (match ops[i]? with
      | none => false
      | some oi => done.all fun j => (maskOf tab i).testBit j || !pu j || (match ops[j]? with | none => false | some oj => pu j && !lookB ops oj oi && (lt.contains j || hf oj))) &&
      t.top && planT pu hf ops tab t (i :: done) (rem.erase i) && planT pu hf ops tab more done rem
  | .none, _, _ => true
def VT (P : Program) (pu : Nat → Bool) (hf : Oper → Bool) (ops : Array Oper) (Q : AQ) (ds : List ADef) : FT → Fr → List Blk → Prop
  | .lin p, f, H => VX P pu hf ops Q ds p f H
  | .fork pre ats, f, H => VP P hf ops (fun f H => VT P pu hf ops Q ds ats f H) pre f H
  | .alt i lt t more, f, H => (match ops[i]? with
      | none => False
      | some o => StepB P ops o f H ds Q (fun f' H' => (∀ j ∈ lt, ∀ oj, ops[j]? = some oj → ∃ r, StepD P ops oj f' H' r ∧ ∀ d, oj.dst = some d → f' d = r) ∧ VT P pu hf ops Q ds t f' H')) ∧ VT P pu hf ops Q ds more f H
  | .none, _, _ => True
theorem vp_sound {tab : List (Nat × Oper × Nat)} (htab : TabOk ops tab) {hf : Oper → Bool} (hsm : ∀ (i : Nat) (o : Oper), ops[i]? = some o → smallO n ops o = true)
    (hlt : ∀ (j : Nat) (o : Oper), ops[j]? = some o → ∀ e ∈ o.after, Region.binds .any e = true → e.on < j) {ds : List ADef} {kb : List Nat → List Nat → Bool} {kv : Fr → List Blk → Prop}
    (hk : ∀ (fuel : Nat) (done rem L : List Nat) (listed : Array Bool) (f fa : Fr) (H : List Blk), kb done rem = true → SInv P pu hf ops done rem L listed f fa H → rem.length + L.length ≤ fuel → kv f H → AA P pu ops Q ds fuel listed fa H) :
    ∀ (p : List Nat) (fuel : Nat) (done rem L : List Nat) (listed : Array Bool) (f fa : Fr) (H : List Blk), planP pu ops tab kb done rem p = true → SInv P pu hf ops done rem L listed f fa H → rem.length + L.length ≤ fuel →
    VP P hf ops kv p f H → AA P pu ops Q ds fuel listed fa H := by
  intro p
  induction p with
  | nil => exact hk
  | cons i0 p ihp =>
    intro fuel done rem L listed f fa H hc hi hfu hv
    simp only [planP, Bool.and_eq_true] at hc
    obtain ⟨⟨⟨hrd, hpu⟩, hop⟩, hrest⟩ := hc
    have hrd' := hrd
    simp only [readyB, Bool.and_eq_true, List.contains_iff_mem] at hrd'
    obtain ⟨hi0r, hedges⟩ := hrd'
    have hi0l := hi.remlt _ hi0r
    have ho0 : ops[i0]? = some (ops[i0]'hi0l) := Array.getElem?_eq_getElem hi0l
    generalize ops[i0]'hi0l = oi at ho0
    have hlen0 := List.length_erase_of_mem hi0r
    have hpos0 := List.length_pos_of_mem hi0r
    rw [ho0] at hop hedges
    simp only at hop hedges
    simp only [VP, ho0] at hv
    have hed : ∀ e ∈ oi.after, Region.binds .any e = true → e.on ∉ rem := by
      intro e he hb hm
      have := List.all_eq_true.1 hedges e (by simpa using he)
      simp only [hb, Bool.not_true, Bool.false_or, Bool.and_eq_true, Bool.not_eq_true'] at this
      rw [List.contains_iff_mem.2 hm] at this; exact absurd this.1 (by simp)
    have hdn : ∀ i, i < ops.size → (i ∈ i0 :: done ↔ i ∉ rem.erase i0) := by
      intro i hil
      rw [hi.rnodup.mem_erase_iff, List.mem_cons, hi.dn i hil]
      by_cases h : i = i0
      · subst h; simp
      · simp [h]
    have hdc : ∀ i o, ops[i]? = some o → i ∉ rem.erase i0 → ∀ e ∈ o.after, Region.binds .any e = true → e.on ∉ rem.erase i0 := by
      intro i o ho hnm e he hb hm
      have hm' := List.mem_of_mem_erase hm
      by_cases h : i = i0
      · subst h; rw [ho0] at ho; cases ho; exact hed e he hb hm'
      · refine hi.dclosed i o ho (fun hir => hnm (hi.rnodup.mem_erase_iff.2 ⟨h, hir⟩)) e he hb hm'
    obtain ⟨r, hr1, hr2, hv'⟩ := hv
    have hal1 : ∀ k ok d, ops[k]? = some ok → oi.dst = some d → d ∈ ok.looksAt ops → Reach ops k i0 := by
      intro k ok d hok hd hm
      simp only [aloneB, hd, List.all_eq_true, List.mem_range] at hop
      have := hop k (Array.getElem?_eq_some_iff.1 hok).1
      rw [hok] at this
      simp only [Bool.and_eq_true, Bool.or_eq_true, Bool.not_eq_true'] at this
      rcases this.1 with h | h
      · rw [List.contains_iff_mem.2 hm] at h; cases h
      · exact maskOf_spec htab h
    have hal2 : ∀ k ok d, ops[k]? = some ok → k ≠ i0 → oi.dst = some d → ok.dst ≠ some d := by
      intro k ok d hok hne hd
      simp only [aloneB, hd, List.all_eq_true, List.mem_range] at hop
      have := hop k (Array.getElem?_eq_some_iff.1 hok).1
      rw [hok] at this
      simp only [Bool.and_eq_true, Bool.or_eq_true, beq_iff_eq, bne_iff_ne] at this
      exact this.2.resolve_left hne
    have hun : ∀ o : Oper, (∃ j, ops[j]? = some o ∧ ¬ Reach ops j i0) → ∀ t ∈ o.looksAt ops, f t = updO f oi.dst r t := by
      rintro o ⟨j, hj, hnr⟩ t ht
      refine (updO_of_not (l := o.looksAt ops) (fun d hd hm => hnr (hal1 j o d hj hd hm)) t ht).symm
    refine ihp fuel (i0 :: done) (rem.erase i0) (i0 :: L) listed (updO f oi.dst r) fa H hrest ?_ (by simp; omega) hv'
    have hi0L : i0 ∉ L := fun h => (hi.good i0 h).1 hi0r
    refine ⟨hi.size, fun i hil => ?_, fun i h => hi.remlt i (List.mem_of_mem_erase h), hi.closed, hdn, hdc, List.nodup_cons.2 ⟨hi0L, hi.nodup⟩, hi.rnodup.erase i0, fun j hj => ?_, fun t ht => ?_⟩
    · rw [hi.un i hil, hi.rnodup.mem_erase_iff, List.mem_cons]
      by_cases h : i = i0
      · subst h; simp [hi0r]
      · simp [h]
    · rcases List.mem_cons.1 hj with rfl | hj
      · refine ⟨fun h => (hi.rnodup.mem_erase_iff.1 h).1 rfl, oi, ho0, hpu, hal1, hal2, r, ?_, ?_, ?_⟩
        · exact stepD_congr (hsm _ _ ho0) (hun oi ⟨_, ho0, fun h => Nat.lt_irrefl _ (reach_lt hlt h)⟩) hr1
        · exact fun h H' => stepD_congr (hsm _ _ ho0) (hun oi ⟨_, ho0, fun h => Nat.lt_irrefl _ (reach_lt hlt h)⟩) (hr2 h H')
        · intro d hd; simp [updO, upd, hd]
      · obtain ⟨hjr, o, ho, g1, g2, g3, r', h1, h2, h3⟩ := hi.good j hj
        have hnr : ¬ Reach ops j i0 := fun h => reach_closed (S := fun k => k ∉ rem) (fun i o ho hn e he hb => hi.dclosed i o ho hn e he hb) h hjr hi0r
        refine ⟨fun h => hjr (List.mem_of_mem_erase h), o, ho, g1, g2, g3, r', stepD_congr (hsm _ _ ho) (hun o ⟨j, ho, hnr⟩) h1, fun h H' => stepD_congr (hsm _ _ ho) (hun o ⟨j, ho, hnr⟩) (h2 h H'), fun d hd => ?_⟩
        have hne : oi.dst ≠ some d := g3 i0 oi d ho0 (fun e => hjr (e ▸ hi0r)) hd
        rw [← h3 d hd]
        cases hd0 : oi.dst with
        | none => rfl
        | some d0 => simp only [updO, upd]; rw [if_neg]; rintro rfl; exact hne hd0
    · have e1 : fa t = f t := hi.agree t fun j hj o ho => ht j (List.mem_cons_of_mem _ hj) o ho
      rw [e1]
      have e2 := ht i0 (by simp) oi ho0
      cases hd0 : oi.dst with
      | none => rfl
      | some d0 => simp only [updO, upd]; rw [if_neg]; rintro rfl; exact e2 hd0
theorem vt_sound {tab : List (Nat × Oper × Nat)} (htab : TabOk ops tab) {hf : Oper → Bool} (hsm : ∀ (i : Nat) (o : Oper), ops[i]? = some o → smallO n ops o = true)
    (hlt : ∀ (j : Nat) (o : Oper), ops[j]? = some o → ∀ e ∈ o.after, Region.binds .any e = true → e.on < j) {ds : List ADef} (t : FT) :
    (∀ (fuel : Nat) (done rem L : List Nat) (listed : Array Bool) (f fa : Fr) (H : List Blk), t.top = true → planT pu hf ops tab t done rem = true → SInv P pu hf ops done rem L listed f fa H → rem.length + L.length ≤ fuel → VT P pu hf ops Q ds t f H → AA P pu ops Q ds fuel listed fa H) ∧
    (∀ (fuel : Nat) (done rem L : List Nat) (listed : Array Bool) (f fa : Fr) (H : List Blk) (x : Nat), x ∈ t.heads → planT pu hf ops tab t done rem = true → SInv P pu hf ops done rem L listed f fa H → rem.length + L.length ≤ fuel + 1 → VT P pu hf ops Q ds t f H → x ∈ Region.ready .any ops listed →
      ∃ o, ops[x]? = some o ∧ pu x = false ∧ StepB P ops o fa H ds Q (fun f' H' => AA P pu ops Q ds fuel (listed.setIfInBounds x true) f' H')) := by
  induction t with
  | lin p => exact ⟨fun fuel done rem L listed f fa H _ hc hi hfu hv => vx_sound htab hsm hlt p fuel done rem L listed f fa H hc hi hfu hv, fun fuel done rem L listed f fa H x hx => (by cases hx)⟩
  | none => exact ⟨fun fuel done rem L listed f fa H ht => (by cases ht), fun fuel done rem L listed f fa H x hx => (by cases hx)⟩
  | alt i0 lt t more iht ihm =>
    refine ⟨fun fuel done rem L listed f fa H ht => (by cases ht), fun fuel done rem L listed f fa H x hx hc hi hfu hv hir => ?_⟩
    simp only [planT, Bool.and_eq_true, Bool.not_eq_true'] at hc
    obtain ⟨⟨⟨⟨⟨c1, c2⟩, c3⟩, c4⟩, c5⟩, c6⟩ := hc
    obtain ⟨v1, v2⟩ := hv
    rcases List.mem_cons.1 hx with rfl | hx
    · cases ho : ops[x]? with
      | none => rw [ho] at c3; cases c3
      | some o =>
        rw [ho] at c3 v1
        exact ⟨o, rfl, c2, vx_impK htab hsm hlt hi hir ho c2 c1 c3 (fun L' listed' f' fa' H' hi' hl' hk' => iht.1 fuel _ _ L' listed' f' fa' H' c4 c5 hi' hl' hk') hfu v1⟩
    · exact ihm.2 fuel done rem L listed f fa H x hx c6 hi hfu v2 hir
  | fork pre ats iha =>
    refine ⟨fun fuel done rem L listed f fa H _ hc hi hfu hv => ?_, fun fuel done rem L listed f fa H x hx => (by cases hx)⟩
    refine vp_sound htab hsm hlt ?_ pre fuel done rem L listed f fa H hc hi hfu hv
    clear hc hi hfu hv
    intro fuel
    induction fuel with
    | zero =>
      intro done rem L listed f fa H hc hi hfu hv
      exfalso
      simp only [Bool.and_eq_true, List.all_eq_true, Bool.not_eq_true', List.isEmpty_eq_false_iff_exists_mem] at hc
      obtain ⟨⟨⟨_, h2⟩, x, h3⟩, _⟩ := hc
      have := List.length_pos_of_mem (List.contains_iff_mem.1 (h2 x h3))
      omega
    | succ fuel ih =>
      intro done rem L listed f fa H hc hi hfu hv
      have hc0 := hc
      simp only [Bool.and_eq_true, List.all_eq_true, Bool.not_eq_true', List.isEmpty_eq_false_iff_exists_mem, List.any_eq_true, Bool.or_eq_true, beq_iff_eq] at hc
      obtain ⟨⟨⟨hall, h2⟩, y, h3⟩, h4⟩ := hc
      refine ⟨fun hn => ?_, fun x hir => ?_⟩
      · obtain ⟨rfl, _⟩ := sinv_ready hsm hlt hi hn
        cases List.contains_iff_mem.1 (h2 y h3)
      · obtain ⟨m1, o, m2, m3⟩ := mem_ready.1 hir
        have hil := (Array.getElem?_eq_some_iff.1 m2).1
        rw [getD_tf (by rw [hi.size]; exact hil)] at m1
        rcases (hi.un x hil).1 m1 with hm | hm
        · obtain ⟨h, hh, hx⟩ := hall x hm
          rcases hx with rfl | hx
          · obtain ⟨o', g1, g2, g3⟩ := iha.2 fuel done rem L listed f fa H x hh h4 hi hfu hv hir
            refine ⟨o', g1, ?_⟩
            rw [if_neg (by simp [g2])]
            exact g3
          · exfalso
            have hhr := List.contains_iff_mem.1 (h2 h hh)
            have := reach_listed hi.closed (maskOf_spec htab hx) fun o' ho' e he hb => m3 e (by rw [m2] at ho'; cases ho'; exact he) hb
            have h5 := (hi.un h (hi.remlt h hhr)).2 (.inl hhr)
            rw [this] at h5; cases h5
        · obtain ⟨o', r, ho, hpu', hst, hinv⟩ := sinv_late hsm hlt hi hir hm
          refine ⟨o', ho, ?_⟩
          rw [if_pos hpu']
          have hlen := List.length_erase_of_mem hm
          have hpos := List.length_pos_of_mem hm
          exact ⟨r, hst, ih done rem (L.erase x) _ f _ H hc0 hinv (by omega) hv⟩
variable {hn : Nat → Bool}
def vcT (P : Program) (hn : Nat → Bool) (ops : Array Oper) (Q : AQ) (ds : List ADef) : FT → Fr → List Blk → Prop
  | .lin p, f, H => vcX P hn ops Q ds p f H
  | .fork pre ats, f, H => vcX P hn ops (fun x f' H' ds' => match x with | .normal => vcT P hn ops Q ds ats f' H' | x => Q x f' H' ds') ds (pre.map fun i => (i, [])) f H
  | .alt i lt t more, f, H => vcL P hn true ops (opsAt ops [i]) (thenQ (fun f' H' _ => lateV P hn ops f' H' (opsAt ops lt) ∧ vcT P hn ops Q ds t f' H') Q) f H ds ∧ vcT P hn ops Q ds more f H
  | .none, _, _ => True
def FT.lates : FT → OPlan
  | .lin p => p
  | .fork _ ats => ats.lates
  | .alt i lt t more => (i, lt) :: (t.lates ++ more.lates)
  | .none => []
theorem vp_of_vcX {ops : Array Oper} {Q : AQ} {ds : List ADef} (hnd : ops.all noDefer = true) {tab : List (Nat × Oper × Nat)} {kb : List Nat → List Nat → Bool} {kv kv' : Fr → List Blk → Prop} :
    ∀ (p done rem : List Nat) (f : Fr) (H : List Blk), planP (puOf (pureOp hn) ops) ops tab kb done rem p = true → (∀ done rem f H, kb done rem = true → kv' f H → kv f H) → vcX P hn ops (fun x f' H' ds' => match x with | .normal => kv' f' H' | x => Q x f' H' ds') ds (p.map fun i => (i, [])) f H → VP P hfreeOp ops kv p f H
  | [], done, rem, f, H, hc, hk, h => hk done rem f H hc h
  | i :: p, done, rem, f, H, hc, hk, h => by
    simp only [planP, Bool.and_eq_true] at hc
    obtain ⟨⟨⟨hrd, hpu⟩, hop⟩, hrest⟩ := hc
    simp only [List.map_cons, vcX] at h
    simp only [VP]
    cases ho : ops[i]? with
    | none => rw [ho] at hop; cases hop
    | some o =>
      have hndo : noDefer o = true := Array.all_eq_true_iff_forall_mem.1 hnd _ (Array.mem_of_getElem? ho)
      have hone : opsAt ops [i] = [o] := by simp [opsAt, ho]
      rw [hone] at h
      obtain ⟨r, h1, h2, h3⟩ := one_det hndo (pureOf_pu ho hpu) h
      exact ⟨r, h1, h2, vp_of_vcX hnd p _ _ _ _ hrest hk h3.2⟩
theorem vt_of_vcT {ops : Array Oper} {Q : AQ} {ds : List ADef} (hnd : ops.all noDefer = true) {tab : List (Nat × Oper × Nat)} (t : FT) : ∀ (done rem : List Nat) (f : Fr) (H : List Blk), planT (puOf (pureOp hn) ops) hfreeOp ops tab t done rem = true →
    (∀ x ∈ t.lates, ∀ j ∈ x.2, ∀ o, ops[j]? = some o → puOf (pureOp hn) ops j = true) → vcT P hn ops Q ds t f H → VT P (puOf (pureOp hn) ops) hfreeOp ops Q ds t f H := by
  induction t with
  | lin p => exact fun done rem f H hc hl h => vx_of_vcX hnd p _ _ _ _ hc hl h
  | none => exact fun done rem f H hc hl h => trivial
  | fork pre ats iha =>
    intro done rem f H hc hl h
    refine vp_of_vcX hnd pre done rem f H hc (fun done rem f H hb hv => ?_) h
    simp only [Bool.and_eq_true] at hb
    exact iha done rem f H hb.2 hl hv
  | alt i lt t more iht ihm =>
    intro done rem f H hc hl h
    simp only [planT, Bool.and_eq_true, Bool.not_eq_true'] at hc
    obtain ⟨⟨⟨⟨⟨c1, c2⟩, c3⟩, c4⟩, c5⟩, c6⟩ := hc
    obtain ⟨v1, v2⟩ := h
    refine ⟨?_, ihm done rem f H c6 (fun x hx => hl x (by simp [FT.lates, hx])) v2⟩
    cases ho : ops[i]? with
    | none => rw [ho] at c3; cases c3
    | some o =>
      have hndo : noDefer o = true := Array.all_eq_true_iff_forall_mem.1 hnd _ (Array.mem_of_getElem? ho)
      have hone : opsAt ops [i] = [o] := by simp [opsAt, ho]
      rw [hone] at v1
      refine stepB_mono (fun f' H' hk => ⟨fun j hj oj hoj => ?_, iht _ _ _ _ c5 (fun x hx => hl x (by simp [FT.lates, hx])) hk.2⟩) (one_bar (Q := Q) (Q' := thenQ (fun f' H' _ => lateV P hn ops f' H' (opsAt ops lt) ∧ vcT P hn ops Q ds t f' H') Q) (fun _ _ _ _ h => h) hndo v1)
      have hpj := hl (i, lt) (by simp [FT.lates]) j hj oj hoj
      have hndj : noDefer oj = true := Array.all_eq_true_iff_forall_mem.1 hnd _ (Array.mem_of_getElem? hoj)
      have hv := lateV_mem hk.1 oj (by simp only [opsAt, List.mem_filterMap]; exact ⟨j, hj, hoj⟩)
      obtain ⟨r, h1, _, h3⟩ := one_det hndj (pureOf_pu hoj hpj) hv
      refine ⟨r, h1, fun d hd => ?_⟩
      simp only [lateQ, hd] at h3
      have := h3.2
      simpa [updO, upd] using this.symm
def treeB (hn : Nat → Bool) (n : Nat) (ops : Array Oper) (t : FT) : Bool :=
  ops.toList.all (smallO n ops) && t.top && planT (puOf (pureOp hn) ops) hfreeOp ops (mkTab ops [] (List.range ops.size)) t [] (List.range ops.size) && lateB (puOf (pureOp hn) ops) ops t.lates &&
  ((List.range ops.size).all fun j => match ops[j]? with
    | none => true
    | some o => o.after.toList.all fun e => !Region.binds .any e || decide (e.on < j)) && ops.all noDefer
def vcTW (P : Program) (hn : Nat → Bool) (t : FT) (ops : Array Oper) (Q : AQ) (f : Fr) (H : List Blk) (ds : List ADef) (_ : Wit (hn, ops, Q, f, H, ds)) : Prop := vcT P hn ops Q ds t f H
def treeQ (P : Program) (hn : Nat → Bool) (ops : Array Oper) (Q : AQ) (ds : List ADef) (ats : FT) : AQ := fun x f' H' ds' => match x with | .normal => vcT P hn ops Q ds ats f' H' | x => Q x f' H' ds'
theorem awp_region_tree (hn : Nat → Bool) (t : FT) {id : Nat} {ops : Array Oper} {Q : AQ} {f : Fr} {H : List Blk} {ds : List ADef} (hs : (treeB hn n ops t && P.follows .mixedOrders) = true)
    (h : vcTW P hn t ops Q f H ds (wit _)) : AWP P n (.region id ops true) Q f H ds := by
  simp only [treeB, Bool.and_eq_true, List.all_eq_true] at hs
  obtain ⟨⟨⟨⟨⟨⟨hs1, ht⟩, hs2⟩, hs3⟩, hs5⟩, hs6⟩, hm⟩ := hs
  have hsm : ∀ (i : Nat) (o : Oper), ops[i]? = some o → smallO n ops o = true := fun i o ho => hs1 o (by simpa using Array.mem_of_getElem? ho)
  have lt : ∀ p : OPlan, lateB (puOf (pureOp hn) ops) ops p = true → ∀ x ∈ p, ∀ j ∈ x.2, ∀ o, ops[j]? = some o → puOf (pureOp hn) ops j = true := fun p hp x hx j hj o ho => by
    simp only [lateB, List.all_eq_true] at hp
    have := hp x hx j hj
    rw [ho] at this; exact this
  have hv := vt_of_vcT hs6 t [] (List.range ops.size) f H hs2 (lt _ hs3) h
  intro ro hro B w0 cx0 cx a h1 h2 h3 h4 h5
  subst h3
  refine wpIn_region_any hm ?_
  refine aa_sound (P := P) (pu := puOf (pureOp hn) ops) (Q := Q) (B := B) (w0 := w0) (cx0 := cx0) (ro := ro) (fun i o ho hs => by have := hro hs; simp only [noDefC, List.all_eq_true] at this; exact this o (by simpa using Array.mem_of_getElem? ho)) hsm ops.size (Array.replicate ops.size false) f cx.drew a ?_ (hrel_drew h1) (h2.trans (le_drew cx)) (h4.mono (le_drew cx)) (h5.mono (le_drew cx))
  refine (vt_sound (hf := hfreeOp) (mkTab_ok (List.range ops.size) [] (fun d hd => (by cases hd))) hsm (fun j o ho e he hb => ?_) t).1 ops.size [] (List.range ops.size) [] _ f f cx.H ht hs2 ⟨by simp, fun i hi => ?_, fun i hi => by simpa using hi, fun i o ho hl => ?_, fun i hi => by simp [hi], fun i o ho hn => ?_, List.nodup_nil, List.nodup_range, fun j hj => (by cases hj), fun t _ => rfl⟩ (by simp) hv
  · have := hs5 j (List.mem_range.2 (Array.getElem?_eq_some_iff.1 ho).1)
    rw [ho] at this
    simp only [List.all_eq_true] at this
    have := this e (by simpa using he)
    simpa [hb] using this
  · simp [Array.getD_eq_getD_getElem?, Array.getElem?_replicate, hi]
  · exfalso
    have hlt : i < ops.size := (Array.getElem?_eq_some_iff.1 ho).1
    simp [Array.getD_eq_getD_getElem?, Array.getElem?_replicate, hlt] at hl
  · exfalso
    exact hn (by simpa using (Array.getElem?_eq_some_iff.1 ho).1)
@[simp ↓] theorem vcTW_lin (l : List Oper) (Q : AQ) (ds : List ADef) (p : OPlan) (f : Fr) (H : List Blk) (w : Wit (hn, l.toArray, Q, f, H, ds)) : vcTW P hn (.lin p) l.toArray Q f H ds w = vcXW P hn p l.toArray Q f H ds (wit _) := (rfl)
@[simp ↓] theorem vcTW_fork (l : List Oper) (Q : AQ) (ds : List ADef) (pre : List Nat) (ats : FT) (f : Fr) (H : List Blk) (w : Wit (hn, l.toArray, Q, f, H, ds)) : vcTW P hn (.fork pre ats) l.toArray Q f H ds w = vcXW P hn (pre.map fun i => (i, [])) l.toArray (treeQ P hn l.toArray Q ds ats) f H ds (wit _) := (rfl)
@[simp ↓] theorem vcTW_none (l : List Oper) (Q : AQ) (ds : List ADef) (f : Fr) (H : List Blk) (w : Wit (hn, l.toArray, Q, f, H, ds)) : vcTW P hn .none l.toArray Q f H ds w = True := (rfl)
@[simp ↓] theorem vcTW_alt (l : List Oper) (Q : AQ) (ds : List ADef) (i : Nat) (lt : List Nat) (t more : FT) (f : Fr) (H : List Blk) (w : Wit (hn, l.toArray, Q, f, H, ds)) : vcTW P hn (.alt i lt t more) l.toArray Q f H ds w =
    (vcDW P hn (opsL l [i]) l.toArray (thenQ (fun f' H' _ => lateW P hn (opsL l lt) l.toArray f' H' (wit _) ∧ vcTW P hn t l.toArray Q f' H' ds (wit _)) Q) f H ds (wit _) ∧ vcTW P hn more l.toArray Q f H ds (wit _)) := by
  simp only [vcTW, vcT, vcDW, lateW, opsAt, opsL_eq, List.getElem?_toArray]
@[simp ↓] theorem QW_treeN (l : List Oper) (Q : AQ) (ds0 : List ADef) (ats : FT) (f : Fr) (H : List Blk) (ds : List ADef) (w : Wit (treeQ P hn l.toArray Q ds0 ats, AX.normal, f, H, ds)) : QW (treeQ P hn l.toArray Q ds0 ats) .normal f H ds w = vcTW P hn ats l.toArray Q f H ds0 (wit _) := (rfl)
end
end Go.Mu
namespace Go.Mu
open Go.RowKit (Below)
section
variable {P : Program} {n : Nat} {Q : AQ}
theorem awp_giveBox {c : Code} {f : Fr} {N L : List Blk} (hu : underH N.length N = true) (j sz : Nat) (t : TypeId) (es : List (List AV)) (hj : L[j]? = some (ownB t sz es)) (hz : es.flatten.all AV.frzB = true)
    (b : Nat) (bt : TypeId) (cs cs' : List AV) (hb : L[b]? = some (.box bt cs)) (hbj : b ≠ j) (hw : WeakL (cs.map (AV.frzS (N.length + j) sz es)) cs')
    (h : ∀ L' f', (∀ s, f' s = (f s).frzS (N.length + j) sz es) → L'.length = L.length → L'[b]? = some (.box bt cs') → (∀ i x, i ≠ j → i ≠ b → L[i]? = some x → x.under N.length = true → L'[i]? = some x) → AWP P n c Q f' (N ++ L') []) : AWP P n c Q f (N ++ L) [] := by
  refine awp_giveO hu j sz t es hj hz ?_
  have hb1 : ((L.map (Blk.frzS (N.length + j) sz es)).set j .gone)[b]? = some (.box bt (cs.map (AV.frzS (N.length + j) sz es))) := by
    rw [List.getElem?_set_ne (Ne.symm hbj), List.getElem?_map, hb]
    simp only [Option.map_some, blkS_box]
  have hb2 : (N ++ (L.map (Blk.frzS (N.length + j) sz es)).set j .gone)[N.length + b]? = some (.box bt (cs.map (AV.frzS (N.length + j) sz es))) := by
    rw [List.getElem?_append_right (by omega)]; simpa using hb1
  refine awp_weakbox (N.length + b) bt _ cs' hb2 hw ?_
  rw [List.set_append, if_neg (by omega), Nat.add_sub_cancel_left]
  refine h _ _ (fun _ => rfl) (by simp) ?_ ?_
  · have hlt := (List.getElem?_eq_some_iff.1 hb1).1
    rw [List.getElem?_set_self hlt]
  · intro i x hij hib hx hux
    rw [List.getElem?_set_ne (Ne.symm hib), List.getElem?_set_ne (Ne.symm hij), List.getElem?_map, hx]
    simp only [Option.map_some]
    rw [blkS_id (n := N.length) (by omega) x hux]
def M2 (H : List Blk) (c : Nat) (X o t : Blk) (L : List Blk) : List Blk := H.set c X ++ o :: t :: L
variable {H : List Blk} {c : Nat}
end
end Go.Mu
namespace Go.Mu
open Go.RowKit (Below)
mutual
def AV.bfz (k : Nat) (cs : List AV) : AV → AV
  | .bp k' off => if k' = k then .vp (cs.drop off) else .bp k' off
  | .fn f a b => .fn f (bfzL k cs a) (bfzL k cs b)
  | .ifc t x => .ifc t (AV.bfz k cs x)
  | .agg a => .agg (bfzL k cs a)
  | .tup a => .tup (bfzL k cs a)
  | x => x
def bfzL (k : Nat) (cs : List AV) : List AV → List AV
  | [] => []
  | c :: l => AV.bfz k cs c :: bfzL k cs l
end
theorem bfzL_map (k : Nat) (cs : List AV) (l : List AV) : bfzL k cs l = l.map (AV.bfz k cs) := by
  induction l with
  | nil => simp [bfzL]
  | cons c l ih => simp [bfzL, ih]
def Blk.bfz (k : Nat) (cs : List AV) : Blk → Blk
  | .box t a => .box t (bfzL k cs a)
  | .row t z rs => .row t z (rs.map (bfzL k cs))
  | .map ms => .map (ms.map fun p => (p.1, AV.bfz k cs p.2))
  | .mapg ms => .mapg (ms.map fun p => (p.1, AV.bfz k cs p.2))
  | b => b
def bfzH (k : Nat) (cs : List AV) (H : List Blk) : List Blk := (H.map (Blk.bfz k cs)).set k .gone
theorem bfz_fixed {k : Nat} {cs : List AV} (b : Blk) : (b.bfz k cs).fixed = b.fixed := by cases b <;> rfl
theorem bfz_live {k : Nat} {cs : List AV} (b : Blk) : (b.bfz k cs).live = b.live := by cases b <;> rfl
theorem bfzH_get {k : Nat} {cs : List AV} {H : List Blk} {i : Nat} {bl : Blk} (h : (bfzH k cs H)[i]? = some bl) : (i = k ∧ bl = .gone ∧ k < H.length) ∨ (i ≠ k ∧ ∃ b, H[i]? = some b ∧ bl = b.bfz k cs) := by
  unfold bfzH at h
  rw [List.getElem?_set] at h
  by_cases hi : k = i
  · subst hi
    simp at h
    exact .inl ⟨rfl, h.2.symm, h.1⟩
  · rw [if_neg hi, List.getElem?_map] at h
    cases hb : H[i]? with
    | none => rw [hb] at h; cases h
    | some b => rw [hb] at h; cases h; exact .inr ⟨fun e => hi e.symm, b, rfl, rfl⟩
theorem bfzH_other {k : Nat} {cs : List AV} {H : List Blk} {i : Nat} {b : Blk} (hi : i ≠ k) (h : H[i]? = some b) : (bfzH k cs H)[i]? = some (b.bfz k cs) := by
  unfold bfzH
  rw [List.getElem?_set, if_neg (fun e => hi e.symm), List.getElem?_map, h]; rfl
theorem bfzH_self {k : Nat} {cs : List AV} {H : List Blk} {b : Blk} (h : H[k]? = some b) : (bfzH k cs H)[k]? = some .gone := by
  unfold bfzH
  simp [List.getElem?_set, (List.getElem?_eq_some_iff.1 h).1]
def Cx.bfz (cx : Cx) (k : Nat) (cs : List AV) : Cx := { cx with Φ := fun b => cx.Φ b ∨ b = cx.κ k, H := bfzH k cs cx.H }
theorem le_bfz {cx : Cx} {k : Nat} {cs : List AV} {b : Blk} (hk : cx.H[k]? = some b) : Le cx (cx.bfz k cs) := by
  refine ⟨fun b off x _ hc => hc, fun _ h => .inl h, fun i bl h hf => ?_, fun i t z rs h => ?_⟩
  · by_cases hi : i = k
    · subst hi; exact ⟨.gone, bfzH_self hk, rfl, rfl⟩
    · exact ⟨_, bfzH_other hi h, by rw [bfz_fixed]; exact hf, rfl⟩
  · by_cases hi : i = k
    · subst hi; exact .inl ⟨.gone, bfzH_self hk, rfl⟩
    · exact .inr ⟨_, bfzH_other hi h, by simp, fun _ => ⟨rfl, rfl⟩⟩
def AV.frzF : AV → Bool
  | .fn _ fs cs => fs.all AV.frzB && cs.all AV.frzB
  | a => a.frzB
theorem Rep.strongF {cx : Cx} {a : AV} {y : Value} (h : Rep cx false a y) (ha : a.frzF = true) : Rep cx true a y := by
  cases h with
  | fn f fs cs vf vc hnf hrf hnc hrc =>
    simp only [AV.frzF, Bool.and_eq_true, List.all_eq_true] at ha
    exact .fn f fs cs vf vc hnf (fun j c x h1 h2 => (hrf j c x h1 h2).strong (ha.1 c (List.mem_of_getElem? h1))) hnc (fun j c x h1 h2 => (hrc j c x h1 h2).strong (ha.2 c (List.mem_of_getElem? h1)))
  | v => exact .v _
  | vs0 sz a cap => exact .vs0 sz a cap
  | vs sz es b o cap vals hf hz hcap hl hn ho hc hr => exact .vs sz es b o cap vals hf hz hcap hl hn ho hc hr
  | vx sz es b o vals hf hz hl hn ho hc hr => exact .vx sz es b o vals hf hz hl hn ho hc hr
  | vp cs b o vals hf hn hc hr => exact .vp cs b o vals hf hn hc hr
  | bp k off bl hk hf => simp [AV.frzF, AV.frzB] at ha
  | rp k ver i off y ho bl hk hp => simp [AV.frzF, AV.frzB] at ha
  | hs k off n ver y ho bl hk hp => simp [AV.frzF, AV.frzB] at ha
  | hm k bl hk hf => simp [AV.frzF, AV.frzB] at ha
  | hg k bl hk hf => simp [AV.frzF, AV.frzB] at ha
  | hi k bl hk hf => simp [AV.frzF, AV.frzB] at ha
  | yl k bl hk hf => simp [AV.frzF, AV.frzB] at ha
  | bs k off n cap bl hk hf hc => simp [AV.frzF, AV.frzB] at ha
  | ifc t x y h => exact Rep.strong (.ifc t x y h) (by simpa [AV.frzF] using ha)
  | agg cs vals hn hr => exact Rep.strong (.agg cs vals hn hr) (by simpa [AV.frzF] using ha)
  | tup cs vals hn hr => simp [AV.frzF, AV.frzB] at ha
  | junk y => exact .junk y
theorem RepL.strongF {cx : Cx} {cs : List AV} {vals : List Value} (h : RepL cx false cs vals) (ha : cs.all AV.frzF = true) : RepL cx true cs vals :=
  ⟨h.len, fun j c x h1 h2 => (h.rep j c x h1 h2).strongF (List.all_eq_true.1 ha _ (List.mem_of_getElem? h1))⟩
theorem rep_bfz {B : Nat} {w0 : World} {cx : Cx} (h : HRel B w0 cx) {k : Nat} {t : TypeId} {es : List AV} (hk : cx.H[k]? = some (.box t es)) (hz : es.all AV.frzF = true) {z : Bool} {a : AV} {y : Value} (hr : Rep cx z a y) :
    Rep (cx.bfz k es) z (a.bfz k es) y := by
  have hle : Le cx (cx.bfz k es) := le_bfz hk
  induction hr with
  | v x => exact .v x
  | vs0 s a cap => exact .vs0 s a cap
  | vs s rs b o cap vals hf hz hcap hl hn ho hc hr ih => exact Rep.mono hle (.vs s rs b o cap vals hf hz hcap hl hn ho hc hr)
  | vx s rs b o vals hf hz hl hn ho hc hr ih => exact Rep.mono hle (.vx s rs b o vals hf hz hl hn ho hc hr)
  | vp cs b o vals hf hn hc hr ih => exact Rep.mono hle (.vp cs b o vals hf hn hc hr)
  | bp k' off bl hk' hf =>
    simp only [AV.bfz]
    split
    · rename_i he
      subst he
      obtain ⟨b1, b2, vals, b3, b4⟩ := h.blk _ _ hk
      have b5 := (b4.strongF hz).mono hle
      refine .vp (es.drop off) (cx.κ k') off (vals.drop off) (.inr rfl) (by have := b4.len; simp; omega) (fun j x hj => ?_) (fun j c x h1 h2 => ?_)
      · show cx.w.cell? _ = _
        rw [List.getElem?_drop] at hj
        rw [cell_of_row _ _ _ _ _ _ b3]; simpa using hj
      · rw [List.getElem?_drop] at h1 h2
        exact b5.rep _ c x h1 h2
    · exact Rep.mono hle (.bp k' off bl hk' hf)
  | rp k' ver i off y ho bl hk' hp => exact Rep.mono hle (.rp k' ver i off y ho bl hk' hp)
  | hm k' bl hk' hf => exact Rep.mono hle (.hm k' bl hk' hf)
  | hg k' bl hk' hf => exact Rep.mono hle (.hg k' bl hk' hf)
  | hi k' bl hk' hf => exact Rep.mono hle (.hi k' bl hk' hf)
  | yl k' bl hk' hf => exact Rep.mono hle (.yl k' bl hk' hf)
  | bs k' off n cap bl hk' hf hc => exact Rep.mono hle (.bs k' off n cap bl hk' hf hc)
  | hs k' off n ver y ho bl hk' hp => exact Rep.mono hle (.hs k' off n ver y ho bl hk' hp)
  | fn f fs cs vf vc hnf hrf hnc hrc ihf ihc =>
    simp only [AV.bfz, bfzL_map]
    refine .fn f _ _ vf vc (by simpa using hnf) (fun j c x h1 h2 => ?_) (by simpa using hnc) (fun j c x h1 h2 => ?_)
    · rw [List.getElem?_map] at h1
      cases hc : fs[j]? with
      | none => rw [hc] at h1; cases h1
      | some c' => rw [hc] at h1; cases h1; exact ihf j c' x hc h2
    · rw [List.getElem?_map] at h1
      cases hc : cs[j]? with
      | none => rw [hc] at h1; cases h1
      | some c' => rw [hc] at h1; cases h1; exact ihc j c' x hc h2
  | ifc t x y h ih => simp only [AV.bfz]; exact .ifc t _ y ih
  | agg cs vals hn hr ih =>
    simp only [AV.bfz, bfzL_map]
    refine .agg _ vals (by simpa using hn) fun j c x h1 h2 => ?_
    rw [List.getElem?_map] at h1
    cases hc : cs[j]? with
    | none => rw [hc] at h1; cases h1
    | some c' => rw [hc] at h1; cases h1; exact ih j c' x hc h2
  | tup cs vals hn hr ih =>
    simp only [AV.bfz, bfzL_map]
    refine .tup _ vals (by simpa using hn) fun j c x h1 h2 => ?_
    rw [List.getElem?_map] at h1
    cases hc : cs[j]? with
    | none => rw [hc] at h1; cases h1
    | some c' => rw [hc] at h1; cases h1; exact ih j c' x hc h2
  | junk y => exact .junk y
theorem repL_bfz {B : Nat} {w0 : World} {cx : Cx} (h : HRel B w0 cx) {k : Nat} {t : TypeId} {es : List AV} (hk : cx.H[k]? = some (.box t es)) (hz : es.all AV.frzF = true) {z : Bool} {cs : List AV} {vals : List Value} (hr : RepL cx z cs vals) :
    RepL (cx.bfz k es) z (bfzL k es cs) vals := by
  rw [bfzL_map]
  refine ⟨by simpa using hr.len, fun j c x h1 h2 => ?_⟩
  rw [List.getElem?_map] at h1
  cases hc : cs[j]? with
  | none => rw [hc] at h1; cases h1
  | some c' => rw [hc] at h1; cases h1; exact rep_bfz h hk hz (hr.rep j c' x hc h2)
theorem flatten_bfzL (k : Nat) (es : List AV) (rs : List (List AV)) : (rs.map (bfzL k es)).flatten = bfzL k es rs.flatten := by
  rw [bfzL_map, List.map_flatten]
  congr 1
  refine List.map_congr_left fun r _ => bfzL_map k es r
theorem hrel_bfz {B : Nat} {w0 : World} {cx : Cx} (h : HRel B w0 cx) {k : Nat} {t : TypeId} {es : List AV} (hk : cx.H[k]? = some (.box t es)) (hz : es.all AV.frzF = true) : HRel B w0 (cx.bfz k es) := by
  have hle : Le cx (cx.bfz k es) := le_bfz hk
  refine ⟨h.below, h.base, fun b hf => ?_, fun i bl hi => ?_, fun i j b1 b2 a1 a2 l1 l2 he => ?_⟩
  · rcases hf with hf | rfl
    · exact h.frz b hf
    · exact ((h.blk k _ hk).lt rfl).2.1
  · rcases bfzH_get hi with ⟨rfl, rfl, _⟩ | ⟨hne, b, hb, rfl⟩
    · trivial
    · have hbi := h.blk i b hb
      have hΦ : b.live = true → ¬ (cx.bfz k es).Φ (cx.κ i) := by
        rintro hl (hf | he)
        · exact (hbi.lt hl).2.2 hf
        · exact hne (h.inj i k b _ hb hk hl rfl he)
      cases b with
      | box t' cs =>
        obtain ⟨h1, h2, vals, h3, h4⟩ := hbi
        exact ⟨h1, hΦ rfl, vals, h3, repL_bfz h hk hz h4⟩
      | row t' z rs =>
        obtain ⟨h1, h2, h3, h4, h5, h6, vals, h7, h8, h9, h10⟩ := hbi
        refine ⟨h1, hΦ rfl, h3, fun e he => ?_, by rw [List.length_map]; exact h5, h6, vals, h7, h8, ?_, h10⟩
        · obtain ⟨e', he', rfl⟩ := List.mem_map.1 he
          rw [bfzL_map]; simpa using h4 e' he'
        · rw [flatten_bfzL]; simpa using repL_bfz h hk hz h9
      | map ms =>
        obtain ⟨h1, h2, ents, h3, h4, h5⟩ := hbi
        refine ⟨h1, hΦ rfl, ents, h3, by simpa using h4, fun j p e a b => ?_⟩
        rw [List.getElem?_map] at a
        cases hc : ms[j]? with
        | none => rw [hc] at a; cases a
        | some p' =>
          rw [hc] at a; cases a
          obtain ⟨x1, x2, x3⟩ := h5 j p' e hc b
          exact ⟨x1, rep_bfz h hk hz x2, x3⟩
      | mapg ms =>
        obtain ⟨h1, h2, ents, c, h3, h4, h5, h6⟩ := hbi
        refine ⟨h1, hΦ rfl, ents, c, h3, by simpa using h4, fun j p e a b => ?_, h6⟩
        rw [List.getElem?_map] at a
        cases hc : ms[j]? with
        | none => rw [hc] at a; cases a
        | some p' =>
          rw [hc] at a; cases a
          obtain ⟨x1, x2⟩ := h5 j p' e hc b
          exact ⟨x1, rep_bfz h hk hz x2⟩
      | pend => trivial
      | gone => trivial
      | dfr o => obtain ⟨h1, h2, h3⟩ := hbi; exact ⟨h1, hΦ rfl, h3⟩
      | lp st pend n f ps assign body => obtain ⟨h1, h2, fn, tmps, d, h3, h4, h5⟩ := hbi; exact ⟨h1, hΦ rfl, fn, tmps, d, h3, h4, fun t ht => (h5 t ht).mono hle⟩
      | it km n seen =>
        obtain ⟨h1, h2, h3, h4⟩ := hbi
        refine ⟨h1, hΦ rfl, h3, fun m hm => ?_⟩
        obtain ⟨bl, a, b⟩ := h4 m hm
        obtain ⟨bl', a', b', _⟩ := hle.fixed m bl a b
        exact ⟨bl', a', b'⟩
  · rcases bfzH_get a1 with ⟨rfl, rfl, _⟩ | ⟨n1, c1, d1, rfl⟩
    · simp [Blk.live] at l1
    · rcases bfzH_get a2 with ⟨rfl, rfl, _⟩ | ⟨n2, c2, d2, rfl⟩
      · simp [Blk.live] at l2
      · rw [bfz_live] at l1 l2
        exact h.inj i j c1 c2 d1 d2 l1 l2 he
mutual
theorem bfz_under {k n : Nat} (h : n ≤ k) (cs : List AV) : ∀ (a : AV), a.under n = true → a.bfz k cs = a
  | .v _, _ => rfl
  | .vs _ _, _ => rfl
  | .vx _ _, _ => rfl
  | .vp _, _ => rfl
  | .bp k' _, hu => by simp only [AV.under, decide_eq_true_eq] at hu; simp only [AV.bfz]; rw [if_neg (by omega)]
  | .rp _ _ _ _, _ => rfl
  | .hs _ _ _ _, _ => rfl
  | .hm _, _ => rfl
  | .hg _, _ => rfl
  | .hi _, _ => rfl
  | .yl _, _ => rfl
  | .bs _ _ _, _ => rfl
  | .fn _ a b, hu => by simp only [AV.under, Bool.and_eq_true] at hu; simp only [AV.bfz]; rw [bfzL_under h cs a hu.1, bfzL_under h cs b hu.2]
  | .ifc _ x, hu => by simp only [AV.under] at hu; simp only [AV.bfz]; rw [bfz_under h cs x hu]
  | .agg a, hu => by simp only [AV.under] at hu; simp only [AV.bfz]; rw [bfzL_under h cs a hu]
  | .tup a, hu => by simp only [AV.under] at hu; simp only [AV.bfz]; rw [bfzL_under h cs a hu]
  | .junk, _ => rfl
theorem bfzL_under {k n : Nat} (h : n ≤ k) (cs : List AV) : ∀ (l : List AV), underL n l = true → bfzL k cs l = l
  | [], _ => rfl
  | a :: l, hu => by simp only [underL, Bool.and_eq_true] at hu; simp only [bfzL]; rw [bfz_under h cs a hu.1, bfzL_under h cs l hu.2]
end
theorem blk_bfz_under {k n : Nat} (h : n ≤ k) (cs : List AV) (b : Blk) (hu : b.under n = true) : b.bfz k cs = b := by
  cases b with
  | box t a => simp only [Blk.under] at hu; simp only [Blk.bfz]; rw [bfzL_under h cs a hu]
  | row t z rs =>
    simp only [Blk.under, List.all_eq_true] at hu
    simp only [Blk.bfz]
    rw [List.map_congr_left (g := id) (fun r hr => bfzL_under h cs r (hu r hr)), List.map_id]
  | map ms =>
    simp only [Blk.under, List.all_eq_true] at hu
    simp only [Blk.bfz]
    rw [List.map_congr_left (g := id) (fun p hp => by rw [bfz_under h cs p.2 (hu p hp)]; rfl), List.map_id]
  | mapg ms =>
    simp only [Blk.under, List.all_eq_true] at hu
    simp only [Blk.bfz]
    rw [List.map_congr_left (g := id) (fun p hp => by rw [bfz_under h cs p.2 (hu p hp)]; rfl), List.map_id]
  | _ => rfl
theorem acalls_boxed {P : Program} {fid : FuncId} {args : List AV} {H : List Blk} {a : AV} {t : TypeId} {cs : List AV} (hz : cs.all AV.frzF = true) (hu2 : (a.bfz H.length cs).under H.length = true)
    (h : ACalls P fid args H (fun e H' => e = .ret a ∧ H' = H ++ [.box t cs])) : ACalls P fid args H (fun e H' => e = .ret (a.bfz H.length cs) ∧ H' = H) := by
  intro B w0 cx vals h1 h2 h3
  have hu := h1.under
  rw [h2] at hu
  refine (h B w0 cx vals h1 h2 h3).mono fun e w' he => ?_
  cases e with
  | returned y =>
    obtain ⟨cx', r, rfl, b1, b2, b3, b4, b5⟩ := he
    cases b4
    have hk : cx'.H[H.length]? = some (.box t cs) := by rw [b5]; simp
    have c1 := hrel_bfz b1 hk hz
    have c2 := le_bfz (cs := cs) hk
    have c3 := rep_bfz b1 hk hz b3
    have c4 : (cx'.bfz H.length cs).H = H ++ [.gone] := by
      show bfzH H.length cs cx'.H = _
      rw [b5, bfzH, List.map_append]
      have e1 : H.map (Blk.bfz H.length cs) = H := by
        rw [List.map_congr_left (g := id) (fun b hb => blk_bfz_under (Nat.le_refl _) cs b (List.all_eq_true.1 hu b hb)), List.map_id]
      rw [e1]; simp
    have hle : Le cx ((cx'.bfz H.length cs).cut H) := le_cut (b2.trans c2) c4 (by rw [h2]; exact Nat.le_refl _)
    exact ⟨(cx'.bfz H.length cs).cut H, _, rfl, hrel_cut c1 c4 hu, hle, rep_cut c4 c3 hu2, rfl, rfl⟩
  | panicked ch =>
    obtain ⟨cx', x, y, rfl, b1, b2, hch, b3, b4, b5⟩ := he
    cases b4
  | outgrown => exact he
end Go.Mu
