/- On the way: handles kept free, rows given away that may be empty, boxes told less of. -/
import Derived.Test.YtpibcbilkpoomaaGreatFwWtoG39
import Derived.Test.YtpibcbilkpoomaaGreatG1toRN
import Derived.Test.YtpibcbilkpoomaaGreatL1
set_option linter.unusedVariables false
set_option linter.unusedSimpArgs false
set_option maxHeartbeats 4000000
set_option maxRecDepth 100000
namespace Go.Mu
open Go.RowKit (Below)
section
variable {P : Program} {n : Nat} {c : Code} {Q : AQ}
theorem FRel.mono' {cx cx' : Cx} (hle : Le cx cx') {f : Fr} {a : Act} (h : FRel cx n f a) : FRel cx' n f a := ⟨h.1, fun t ht => (h.2 t ht).mono hle⟩
def Cx.less (cx : Cx) (b : Nat) (t : TypeId) (cs : List AV) : Cx := { cx with H := cx.H.set b (.box t cs) }
theorem le_less {cx : Cx} {b : Nat} {t : TypeId} {cs cs' : List AV} (hb : cx.H[b]? = some (.box t cs)) : Le cx (cx.less b t cs') := by
  have hlt := (List.getElem?_eq_some_iff.1 hb).1
  refine ⟨fun _ _ _ _ h => h, fun _ h => h, fun k bl h hf => ?_, fun k t' sz es h => .inr ⟨es, ?_, Nat.le_refl _, fun _ => ⟨rfl, rfl⟩⟩⟩
  · by_cases hk : b = k
    · subst hk; exact ⟨.box t cs', by simp [Cx.less, hlt], rfl, rfl⟩
    · exact ⟨bl, by simp only [Cx.less]; rw [List.getElem?_set_ne hk]; exact h, hf, rfl⟩
  · have hk : b ≠ k := fun e => by subst e; rw [hb] at h; cases h
    simp only [Cx.less]; rw [List.getElem?_set_ne hk]; exact h
theorem hrel_less {B : Nat} {w0 : World} {cx : Cx} (h : HRel B w0 cx) {b : Nat} {t : TypeId} {cs cs' : List AV} (hb : cx.H[b]? = some (.box t cs)) (hw : WeakL cs cs') : HRel B w0 (cx.less b t cs') := by
  have hle := le_less (cs' := cs') hb
  have hlt := (List.getElem?_eq_some_iff.1 hb).1
  have key : ∀ (i : Nat) (bl : Blk), (cx.less b t cs').H[i]? = some bl → (i = b ∧ bl = .box t cs') ∨ (i ≠ b ∧ cx.H[i]? = some bl) := by
    intro i bl hi
    by_cases hk : b = i
    · subst hk; simp [Cx.less, hlt] at hi; exact .inl ⟨rfl, hi.symm⟩
    · simp only [Cx.less] at hi; rw [List.getElem?_set_ne hk] at hi; exact .inr ⟨Ne.symm hk, hi⟩
  have key2 : ∀ (i : Nat) (bl : Blk), (cx.less b t cs').H[i]? = some bl → bl.live = true → ∃ bl', cx.H[i]? = some bl' ∧ bl'.live = true := by
    intro i bl hi hl
    rcases key i bl hi with ⟨rfl, rfl⟩ | ⟨_, h2⟩
    · exact ⟨_, hb, rfl⟩
    · exact ⟨_, h2, hl⟩
  refine ⟨h.below, h.base, h.frz, fun i bl hi => ?_, fun i j b1 b2 a1 a2 l1 l2 he => ?_⟩
  · rcases key i bl hi with ⟨rfl, rfl⟩ | ⟨hne, hi'⟩
    · obtain ⟨h1, h2, vals, h3, h4⟩ := h.blk _ _ hb
      exact ⟨h1, h2, vals, h3, (h4.mono hle).weakens hw⟩
    · have hbr := h.blk i bl hi'
      exact hbr.mono hle fun hl => ⟨rfl, rfl, rfl, (hbr.lt hl).2.2⟩
  · obtain ⟨b1', a1', l1'⟩ := key2 i b1 a1 l1
    obtain ⟨b2', a2', l2'⟩ := key2 j b2 a2 l2
    exact h.inj i j b1' b2' a1' a2' l1' l2' he
theorem awp_weakbox {f : Fr} {H : List Blk} (b : Nat) (t : TypeId) (cs cs' : List AV) (hb : H[b]? = some (.box t cs)) (hw : WeakL cs cs') (h : AWP P n c Q f (H.set b (.box t cs')) []) : AWP P n c Q f H [] := by
  intro ro hro B w0 cx0 cx a h1 h2 h3 h4 h5
  subst h3
  refine h ro hro B w0 cx0 (cx.less b t cs') a (hrel_less h1 hb hw) (h2.trans (le_less hb)) rfl (h4.mono' (le_less hb)) ?_
  cases hd : a.defers with
  | nil => trivial
  | cons d l => rw [hd] at h5; exact h5.elim
def AV.frzS (k sz : Nat) (es : List (List AV)) (a : AV) : AV := if es = [] then a else a.frz k sz es
theorem frzS_id {k sz n : Nat} {es : List (List AV)} (hn : n ≤ k) (a : AV) (h : a.under n = true) : a.frzS k sz es = a := by
  unfold AV.frzS; split
  · rfl
  · exact frz_id hn a h
@[simp] theorem frzS_vs (k sz sz' : Nat) (es es' : List (List AV)) : (AV.vs sz' es').frzS k sz es = .vs sz' es' := frzS_id (Nat.zero_le _) _ rfl
@[simp] theorem frzS_bp (k sz b o : Nat) (es : List (List AV)) : (AV.bp b o).frzS k sz es = .bp b o := by
  unfold AV.frzS; split <;> rfl
def Blk.frzS (k sz : Nat) (es : List (List AV)) (b : Blk) : Blk := if es = [] then b else b.frz k sz es
theorem blkS_id {k sz n : Nat} {es : List (List AV)} (hn : n ≤ k) (b : Blk) (h : b.under n = true) : b.frzS k sz es = b := by
  unfold Blk.frzS; split
  · rfl
  · exact frzB_id hn b h
theorem blkS_box (k sz : Nat) (es : List (List AV)) (t : TypeId) (cs : List AV) : (Blk.box t cs).frzS k sz es = .box t (cs.map (AV.frzS k sz es)) := by
  unfold Blk.frzS AV.frzS; split
  · simp
  · simp only [Blk.frz]
    congr 1
    induction cs with
    | nil => rfl
    | cons a l ih => simp only [frzL, List.map_cons, ih]
theorem awp_giveO {f : Fr} {N L : List Blk} (hu : underH N.length N = true) (j sz : Nat) (t : TypeId) (es : List (List AV)) (hj : L[j]? = some (ownB t sz es)) (hz : es.flatten.all AV.frzB = true)
    (h : AWP P n c Q (fun s => (f s).frzS (N.length + j) sz es) (N ++ (L.map (Blk.frzS (N.length + j) sz es)).set j .gone) []) : AWP P n c Q f (N ++ L) [] := by
  by_cases hes : es = []
  · subst hes
    rw [ownB_nil] at hj
    have h1 : (fun s => (f s).frzS (N.length + j) sz []) = f := by funext s; simp [AV.frzS]
    have h2 : L.map (Blk.frzS (N.length + j) sz []) = L := by
      conv => rhs; rw [← List.map_id L]
      exact List.map_congr_left fun b _ => by simp [Blk.frzS]
    rw [h1, h2] at h
    intro ro hro B w0 cx0 cx a b1 b2 b3 b4 b5
    have hlt := (List.getElem?_eq_some_iff.1 hj).1
    have hkj : cx.H[N.length + j]? = some .pend := by rw [b3, List.getElem?_append_right (by omega)]; simpa using hj
    -- the free handle is forgotten
    have hle : Le cx { cx with H := N ++ L.set j .gone } := by
      have hs : N ++ L.set j .gone = cx.H.set (N.length + j) .gone := by rw [b3, List.set_append, if_neg (by omega)]; simp
      refine ⟨fun _ _ _ _ h => h, fun _ h => h, fun k bl h hf => ?_, fun k t' sz es h => .inr ⟨es, ?_, Nat.le_refl _, fun _ => ⟨rfl, rfl⟩⟩⟩
      · have hk : N.length + j ≠ k := fun e => by subst e; rw [hkj] at h; cases h; cases hf
        exact ⟨bl, by show (N ++ L.set j .gone)[k]? = _; rw [hs, List.getElem?_set_ne hk]; exact h, hf, rfl⟩
      · have hk : N.length + j ≠ k := fun e => by subst e; rw [hkj] at h; cases h
        show (N ++ L.set j .gone)[k]? = _
        rw [hs, List.getElem?_set_ne hk]; exact h
    have key : ∀ (i : Nat) (bl : Blk), (N ++ L.set j .gone)[i]? = some bl → bl = .gone ∨ cx.H[i]? = some bl := by
      intro i bl hi
      have hs : N ++ L.set j .gone = cx.H.set (N.length + j) .gone := by rw [b3, List.set_append, if_neg (by omega)]; simp
      rw [hs] at hi
      by_cases hk : N.length + j = i
      · subst hk
        rw [List.getElem?_set_self (by rw [b3, List.length_append]; omega)] at hi
        cases hi; exact .inl rfl
      · rw [List.getElem?_set_ne hk] at hi; exact .inr hi
    have hr : HRel B w0 { cx with H := N ++ L.set j .gone } := by
      refine ⟨b1.below, b1.base, b1.frz, fun i bl hi => ?_, fun i k x1 x2 a1 a2 l1 l2 he => ?_⟩
      · rcases key i bl hi with rfl | hi'
        · trivial
        · have hbr := b1.blk i bl hi'
          exact hbr.mono hle fun hl => ⟨rfl, rfl, rfl, (hbr.lt hl).2.2⟩
      · rcases key i x1 a1 with rfl | a1'
        · cases l1
        · rcases key k x2 a2 with rfl | a2'
          · cases l2
          · exact b1.inj i k x1 x2 a1' a2' l1 l2 he
    refine h ro hro B w0 cx0 { cx with H := N ++ L.set j .gone } a hr (b2.trans hle) rfl (b4.mono' hle) ?_
    cases hd : a.defers with
    | nil => trivial
    | cons d l => rw [hd] at b5; exact b5.elim
  · rw [ownB, if_neg hes] at hj
    refine awp_give (N.length + j) sz t es (by rw [List.getElem?_append_right (by omega)]; simpa using hj) hz ?_
    rw [frzH_app j hu]
    have h1 : (fun s => (f s).frzS (N.length + j) sz es) = fun s => (f s).frz (N.length + j) sz es := by funext s; simp [AV.frzS, hes]
    have h2 : L.map (Blk.frzS (N.length + j) sz es) = L.map (Blk.frz (N.length + j) sz es) := List.map_congr_left fun b _ => by simp [Blk.frzS, hes]
    rw [h1, h2] at h
    exact h
end
end Go.Mu
namespace Go.Mu
inductive FT where
  | lin (p : OPlan)
  | fork (pre : List Nat) (ats : FT)
  | alt (i : Nat) (late : List Nat) (t more : FT)
  | none
def FT.heads : FT → List Nat
  | .alt i _ _ more => i :: more.heads
  | _ => []
def FT.top : FT → Bool
  | .lin _ | .fork .. => true
  | _ => false
section
variable {P : Program} {n : Nat} {pu : Nat → Bool} {ops : Array Oper} {Q : AQ}
theorem vx_impK {tab : List (Nat × Oper × Nat)} (htab : TabOk ops tab) {hf : Oper → Bool} (hsm : ∀ (i : Nat) (o : Oper), ops[i]? = some o → smallO n ops o = true)
    (hlt : ∀ (j : Nat) (o : Oper), ops[j]? = some o → ∀ e ∈ o.after, Region.binds .any e = true → e.on < j) {ds : List ADef} {K : Fr → List Blk → Prop} {fuel : Nat} {done rem L : List Nat} {listed : Array Bool} {f fa : Fr} {H : List Blk} {i0 : Nat} {lt : List Nat} {oi : Oper}
    (hi : SInv P pu hf ops done rem L listed f fa H) (hir : i0 ∈ Region.ready .any ops listed) (ho0 : ops[i0]? = some oi) (hpu : pu i0 = false) (hrd : readyB ops rem i0 = true)
    (hop2 : (done.all fun j => (maskOf tab i0).testBit j || !pu j || (match ops[j]? with | none => false | some oj => pu j && !lookB ops oj oi && (lt.contains j || hf oj))) = true)
    (hrest : ∀ (L : List Nat) (listed : Array Bool) (f fa : Fr) (H : List Blk), SInv P pu hf ops (i0 :: done) (rem.erase i0) L listed f fa H → (rem.erase i0).length + L.length ≤ fuel → K f H → AA P pu ops Q ds fuel listed fa H) (hfu : rem.length + L.length ≤ fuel + 1)
    (hv : StepB P ops oi f H ds Q (fun f' H' => (∀ j ∈ lt, ∀ oj, ops[j]? = some oj → ∃ r, StepD P ops oj f' H' r ∧ ∀ d, oj.dst = some d → f' d = r) ∧ K f' H')) :
    StepB P ops oi fa H ds Q (fun f' H' => AA P pu ops Q ds fuel (listed.setIfInBounds i0 true) f' H') := by
  have hrd' := hrd
  simp only [readyB, Bool.and_eq_true, List.contains_iff_mem] at hrd'
  obtain ⟨hi0r, hedges⟩ := hrd'
  have hi0l := hi.remlt _ hi0r
  have hlen0 := List.length_erase_of_mem hi0r
  have hpos0 := List.length_pos_of_mem hi0r
  rw [ho0] at hedges
  simp only at hedges
  simp only [List.all_eq_true, Bool.or_eq_true] at hop2
  have hed : ∀ e ∈ oi.after, Region.binds .any e = true → e.on ∉ rem := by
    intro e he hb hm
    have := List.all_eq_true.1 hedges e (by simpa using he)
    simp only [hb, Bool.not_true, Bool.false_or, Bool.and_eq_true, Bool.not_eq_true'] at this
    rw [List.contains_iff_mem.2 hm] at this; exact absurd this.1 (by simp)
  have hdn : ∀ i, i < ops.size → (i ∈ i0 :: done ↔ i ∉ rem.erase i0) := by
    intro i hil
    rw [hi.rnodup.mem_erase_iff, List.mem_cons, hi.dn i hil]
    by_cases h : i = i0
    · subst h; simp
    · simp [h]
  have hdc : ∀ i o, ops[i]? = some o → i ∉ rem.erase i0 → ∀ e ∈ o.after, Region.binds .any e = true → e.on ∉ rem.erase i0 := by
    intro i o ho hnm e he hb hm
    have hm' := List.mem_of_mem_erase hm
    by_cases h : i = i0
    · subst h; rw [ho0] at ho; cases ho; exact hed e he hb hm'
    · refine hi.dclosed i o ho (fun hir => hnm (hi.rnodup.mem_erase_iff.2 ⟨h, hir⟩)) e he hb hm'
  obtain ⟨m1, o, m2, m3⟩ := mem_ready.1 hir
  have hil := (Array.getElem?_eq_some_iff.1 m2).1
  have hag : ∀ t ∈ oi.looksAt ops, f t = fa t := by
    intro t ht
    refine (hi.agree t fun k hk ok hok hd => ?_).symm
    obtain ⟨_, o2, ho2, _, g1, _⟩ := hi.good k hk
    rw [hok] at ho2; cases ho2
    have hre := g1 i0 oi t ho0 hd ht
    have hkl := reach_listed hi.closed hre fun o3 h3 e he hb => by rw [m2] at h3; cases h3; exact m3 e he hb
    have := (hi.un k (Array.getElem?_eq_some_iff.1 hok).1).2 (.inr hk)
    rw [hkl] at this; cases this
  rw [ho0] at m2; cases m2
  have hmask : maskFr ops f = maskFr ops fa := by
    funext t
    unfold maskFr
    split
    · rfl
    · rename_i hno
      refine (hi.agree t fun j hj o ho hd => hno ?_).symm
      rw [Array.any_eq_true']
      exact ⟨o, Array.mem_of_getElem? ho, by simp [hd]⟩
  refine stepB_congr (hsm _ _ ho0) hag hmask (fun r H' hk => ?_) hv
  obtain ⟨hlate, hv'⟩ := hk
  refine hrest L _ (updO f oi.dst r) (updO fa oi.dst r) H' ?_ (by omega) hv'
  refine ⟨by simp [hi.size], fun k hkl => ?_, fun k h => hi.remlt k (List.mem_of_mem_erase h), closed_set hi.closed hir, hdn, hdc, hi.nodup, hi.rnodup.erase i0, fun j hj => ?_, fun t ht => ?_⟩
  · rw [getD_set (by rw [hi.size]; exact hi0l), hi.rnodup.mem_erase_iff]
    by_cases h : k = i0
    · subst h; simp; exact fun h => (hi.good k h).1 hi0r
    · rw [if_neg h, hi.un k hkl]; simp [h]
  · obtain ⟨hjr, o, ho, g1, g2, g3, r', h1, h2, h3⟩ := hi.good j hj
    have hjl := (Array.getElem?_eq_some_iff.1 ho).1
    have hjd : j ∈ done := (hi.dn j hjl).2 hjr
    have hnre : (maskOf tab i0).testBit j ≠ true := fun h => by
      have := reach_listed hi.closed (maskOf_spec htab h) fun o' ho' e he hb => m3 e (by rw [ho0] at ho'; cases ho'; exact he) hb
      have h2 := (hi.un j hjl).2 (.inr hj)
      rw [this] at h2; cases h2
    have hcl := (hop2 j hjd).resolve_left (fun h => h.elim hnre fun h => by rw [(hi.good j hj).2.choose_spec.2.1] at h; cases h)
    rw [ho] at hcl
    simp only [Bool.and_eq_true, Bool.or_eq_true, Bool.not_eq_true'] at hcl
    obtain ⟨⟨_, hlook⟩, hlf⟩ := hcl
    have hun : ∀ t ∈ o.looksAt ops, f t = updO f oi.dst r t := by
      intro t ht
      refine (updO_of_not (l := o.looksAt ops) (fun d hd hm => ?_) t ht).symm
      simp only [lookB, hd] at hlook
      rw [List.contains_iff_mem.2 hm] at hlook; cases hlook
    have hdst : ∀ d, o.dst = some d → updO f oi.dst r d = f d := by
      intro d hd
      have hne : oi.dst ≠ some d := g3 i0 oi d ho0 (fun e => hjr (e ▸ hi0r)) hd
      cases hd0 : oi.dst with
      | none => rfl
      | some d0 => simp only [updO, upd]; rw [if_neg]; rintro rfl; exact hne hd0
    refine ⟨fun h => hjr (List.mem_of_mem_erase h), o, ho, g1, g2, g3, ?_⟩
    by_cases hh : hf o = true
    · exact ⟨r', stepD_congr (hsm _ _ ho) hun (h2 hh H'), fun h H'' => stepD_congr (hsm _ _ ho) hun (h2 h H''), fun d hd => by rw [hdst d hd]; exact h3 d hd⟩
    · have hjlate : j ∈ lt := List.contains_iff_mem.1 (hlf.resolve_right hh)
      obtain ⟨r2, q1, q2⟩ := hlate j hjlate o ho
      exact ⟨r2, q1, fun h => absurd h hh, q2⟩
  · cases hd0 : oi.dst with
    | none => exact hi.agree t ht
    | some d0 =>
      simp only [updO, upd]
      by_cases htd : t = d0
      · rw [if_pos htd, if_pos htd]
      · rw [if_neg htd, if_neg htd]; exact hi.agree t ht
def planP (pu : Nat → Bool) (ops : Array Oper) (tab : List (Nat × Oper × Nat)) (k : List Nat → List Nat → Bool) : List Nat → List Nat → List Nat → Bool
  | done, rem, [] => k done rem
  | done, rem, i :: rest => readyB ops rem i && pu i && (match ops[i]? with | none => false | some oi => aloneB ops tab i oi) && planP pu ops tab k (i :: done) (rem.erase i) rest
def VP (P : Program) (hf : Oper → Bool) (ops : Array Oper) (k : Fr → List Blk → Prop) : List Nat → Fr → List Blk → Prop
  | [], f, H => k f H
  | i :: rest, f, H => match ops[i]? with
    | none => False
    | some o => ∃ r, StepD P ops o f H r ∧ (hf o = true → ∀ H', StepD P ops o f H' r) ∧ VP P hf ops k rest (updO f o.dst r) H
def planT (pu : Nat → Bool) (hf : Oper → Bool) (ops : Array Oper) (tab : List (Nat × Oper × Nat)) : FT → List Nat → List Nat → Bool
  | .lin p, done, rem => planX pu hf ops tab done rem p
  | .fork pre ats, done, rem => planP pu ops tab (fun done rem => (rem.all fun x => ats.heads.any fun h => x == h || (maskOf tab x).testBit h) && ats.heads.all (fun h => rem.contains h) && !ats.heads.isEmpty && planT pu hf ops tab ats done rem) done rem pre
  | .alt i lt t more, done, rem => readyB ops rem i && !pu i && (match ops[i]? with
      | none => false
      | some oi => done.all fun j => (maskOf tab i).testBit j || !pu j || (match ops[j]? with | none => false | some oj => pu j && !lookB ops oj oi && (lt.contains j || hf oj))) &&
      t.top && planT pu hf ops tab t (i :: done) (rem.erase i) && planT pu hf ops tab more done rem
  | .none, _, _ => true
def VT (P : Program) (pu : Nat → Bool) (hf : Oper → Bool) (ops : Array Oper) (Q : AQ) (ds : List ADef) : FT → Fr → List Blk → Prop
  | .lin p, f, H => VX P pu hf ops Q ds p f H
  | .fork pre ats, f, H => VP P hf ops (fun f H => VT P pu hf ops Q ds ats f H) pre f H
  | .alt i lt t more, f, H => (match ops[i]? with
      | none => False
      | some o => StepB P ops o f H ds Q (fun f' H' => (∀ j ∈ lt, ∀ oj, ops[j]? = some oj → ∃ r, StepD P ops oj f' H' r ∧ ∀ d, oj.dst = some d → f' d = r) ∧ VT P pu hf ops Q ds t f' H')) ∧ VT P pu hf ops Q ds more f H
  | .none, _, _ => True
theorem vp_sound {tab : List (Nat × Oper × Nat)} (htab : TabOk ops tab) {hf : Oper → Bool} (hsm : ∀ (i : Nat) (o : Oper), ops[i]? = some o → smallO n ops o = true)
    (hlt : ∀ (j : Nat) (o : Oper), ops[j]? = some o → ∀ e ∈ o.after, Region.binds .any e = true → e.on < j) {ds : List ADef} {kb : List Nat → List Nat → Bool} {kv : Fr → List Blk → Prop}
    (hk : ∀ (fuel : Nat) (done rem L : List Nat) (listed : Array Bool) (f fa : Fr) (H : List Blk), kb done rem = true → SInv P pu hf ops done rem L listed f fa H → rem.length + L.length ≤ fuel → kv f H → AA P pu ops Q ds fuel listed fa H) :
    ∀ (p : List Nat) (fuel : Nat) (done rem L : List Nat) (listed : Array Bool) (f fa : Fr) (H : List Blk), planP pu ops tab kb done rem p = true → SInv P pu hf ops done rem L listed f fa H → rem.length + L.length ≤ fuel →
    VP P hf ops kv p f H → AA P pu ops Q ds fuel listed fa H := by
  intro p
  induction p with
  | nil => exact hk
  | cons i0 p ihp =>
    intro fuel done rem L listed f fa H hc hi hfu hv
    simp only [planP, Bool.and_eq_true] at hc
    obtain ⟨⟨⟨hrd, hpu⟩, hop⟩, hrest⟩ := hc
    have hrd' := hrd
    simp only [readyB, Bool.and_eq_true, List.contains_iff_mem] at hrd'
    obtain ⟨hi0r, hedges⟩ := hrd'
    have hi0l := hi.remlt _ hi0r
    have ho0 : ops[i0]? = some (ops[i0]'hi0l) := Array.getElem?_eq_getElem hi0l
    generalize ops[i0]'hi0l = oi at ho0
    have hlen0 := List.length_erase_of_mem hi0r
    have hpos0 := List.length_pos_of_mem hi0r
    rw [ho0] at hop hedges
    simp only at hop hedges
    simp only [VP, ho0] at hv
    have hed : ∀ e ∈ oi.after, Region.binds .any e = true → e.on ∉ rem := by
      intro e he hb hm
      have := List.all_eq_true.1 hedges e (by simpa using he)
      simp only [hb, Bool.not_true, Bool.false_or, Bool.and_eq_true, Bool.not_eq_true'] at this
      rw [List.contains_iff_mem.2 hm] at this; exact absurd this.1 (by simp)
    have hdn : ∀ i, i < ops.size → (i ∈ i0 :: done ↔ i ∉ rem.erase i0) := by
      intro i hil
      rw [hi.rnodup.mem_erase_iff, List.mem_cons, hi.dn i hil]
      by_cases h : i = i0
      · subst h; simp
      · simp [h]
    have hdc : ∀ i o, ops[i]? = some o → i ∉ rem.erase i0 → ∀ e ∈ o.after, Region.binds .any e = true → e.on ∉ rem.erase i0 := by
      intro i o ho hnm e he hb hm
      have hm' := List.mem_of_mem_erase hm
      by_cases h : i = i0
      · subst h; rw [ho0] at ho; cases ho; exact hed e he hb hm'
      · refine hi.dclosed i o ho (fun hir => hnm (hi.rnodup.mem_erase_iff.2 ⟨h, hir⟩)) e he hb hm'
    obtain ⟨r, hr1, hr2, hv'⟩ := hv
    have hal1 : ∀ k ok d, ops[k]? = some ok → oi.dst = some d → d ∈ ok.looksAt ops → Reach ops k i0 := by
      intro k ok d hok hd hm
      simp only [aloneB, hd, List.all_eq_true, List.mem_range] at hop
      have := hop k (Array.getElem?_eq_some_iff.1 hok).1
      rw [hok] at this
      simp only [Bool.and_eq_true, Bool.or_eq_true, Bool.not_eq_true'] at this
      rcases this.1 with h | h
      · rw [List.contains_iff_mem.2 hm] at h; cases h
      · exact maskOf_spec htab h
    have hal2 : ∀ k ok d, ops[k]? = some ok → k ≠ i0 → oi.dst = some d → ok.dst ≠ some d := by
      intro k ok d hok hne hd
      simp only [aloneB, hd, List.all_eq_true, List.mem_range] at hop
      have := hop k (Array.getElem?_eq_some_iff.1 hok).1
      rw [hok] at this
      simp only [Bool.and_eq_true, Bool.or_eq_true, beq_iff_eq, bne_iff_ne] at this
      exact this.2.resolve_left hne
    have hun : ∀ o : Oper, (∃ j, ops[j]? = some o ∧ ¬ Reach ops j i0) → ∀ t ∈ o.looksAt ops, f t = updO f oi.dst r t := by
      rintro o ⟨j, hj, hnr⟩ t ht
      refine (updO_of_not (l := o.looksAt ops) (fun d hd hm => hnr (hal1 j o d hj hd hm)) t ht).symm
    refine ihp fuel (i0 :: done) (rem.erase i0) (i0 :: L) listed (updO f oi.dst r) fa H hrest ?_ (by simp; omega) hv'
    have hi0L : i0 ∉ L := fun h => (hi.good i0 h).1 hi0r
    refine ⟨hi.size, fun i hil => ?_, fun i h => hi.remlt i (List.mem_of_mem_erase h), hi.closed, hdn, hdc, List.nodup_cons.2 ⟨hi0L, hi.nodup⟩, hi.rnodup.erase i0, fun j hj => ?_, fun t ht => ?_⟩
    · rw [hi.un i hil, hi.rnodup.mem_erase_iff, List.mem_cons]
      by_cases h : i = i0
      · subst h; simp [hi0r]
      · simp [h]
    · rcases List.mem_cons.1 hj with rfl | hj
      · refine ⟨fun h => (hi.rnodup.mem_erase_iff.1 h).1 rfl, oi, ho0, hpu, hal1, hal2, r, ?_, ?_, ?_⟩
        · exact stepD_congr (hsm _ _ ho0) (hun oi ⟨_, ho0, fun h => Nat.lt_irrefl _ (reach_lt hlt h)⟩) hr1
        · exact fun h H' => stepD_congr (hsm _ _ ho0) (hun oi ⟨_, ho0, fun h => Nat.lt_irrefl _ (reach_lt hlt h)⟩) (hr2 h H')
        · intro d hd; simp [updO, upd, hd]
      · obtain ⟨hjr, o, ho, g1, g2, g3, r', h1, h2, h3⟩ := hi.good j hj
        have hnr : ¬ Reach ops j i0 := fun h => reach_closed (S := fun k => k ∉ rem) (fun i o ho hn e he hb => hi.dclosed i o ho hn e he hb) h hjr hi0r
        refine ⟨fun h => hjr (List.mem_of_mem_erase h), o, ho, g1, g2, g3, r', stepD_congr (hsm _ _ ho) (hun o ⟨j, ho, hnr⟩) h1, fun h H' => stepD_congr (hsm _ _ ho) (hun o ⟨j, ho, hnr⟩) (h2 h H'), fun d hd => ?_⟩
        have hne : oi.dst ≠ some d := g3 i0 oi d ho0 (fun e => hjr (e ▸ hi0r)) hd
        rw [← h3 d hd]
        cases hd0 : oi.dst with
        | none => rfl
        | some d0 => simp only [updO, upd]; rw [if_neg]; rintro rfl; exact hne hd0
    · have e1 : fa t = f t := hi.agree t fun j hj o ho => ht j (List.mem_cons_of_mem _ hj) o ho
      rw [e1]
      have e2 := ht i0 (by simp) oi ho0
      cases hd0 : oi.dst with
      | none => rfl
      | some d0 => simp only [updO, upd]; rw [if_neg]; rintro rfl; exact e2 hd0
theorem vt_sound {tab : List (Nat × Oper × Nat)} (htab : TabOk ops tab) {hf : Oper → Bool} (hsm : ∀ (i : Nat) (o : Oper), ops[i]? = some o → smallO n ops o = true)
    (hlt : ∀ (j : Nat) (o : Oper), ops[j]? = some o → ∀ e ∈ o.after, Region.binds .any e = true → e.on < j) {ds : List ADef} (t : FT) :
    (∀ (fuel : Nat) (done rem L : List Nat) (listed : Array Bool) (f fa : Fr) (H : List Blk), t.top = true → planT pu hf ops tab t done rem = true → SInv P pu hf ops done rem L listed f fa H → rem.length + L.length ≤ fuel → VT P pu hf ops Q ds t f H → AA P pu ops Q ds fuel listed fa H) ∧
    (∀ (fuel : Nat) (done rem L : List Nat) (listed : Array Bool) (f fa : Fr) (H : List Blk) (x : Nat), x ∈ t.heads → planT pu hf ops tab t done rem = true → SInv P pu hf ops done rem L listed f fa H → rem.length + L.length ≤ fuel + 1 → VT P pu hf ops Q ds t f H → x ∈ Region.ready .any ops listed →
      ∃ o, ops[x]? = some o ∧ pu x = false ∧ StepB P ops o fa H ds Q (fun f' H' => AA P pu ops Q ds fuel (listed.setIfInBounds x true) f' H')) := by
  induction t with
  | lin p => exact ⟨fun fuel done rem L listed f fa H _ hc hi hfu hv => vx_sound htab hsm hlt p fuel done rem L listed f fa H hc hi hfu hv, fun fuel done rem L listed f fa H x hx => (by cases hx)⟩
  | none => exact ⟨fun fuel done rem L listed f fa H ht => (by cases ht), fun fuel done rem L listed f fa H x hx => (by cases hx)⟩
  | alt i0 lt t more iht ihm =>
    refine ⟨fun fuel done rem L listed f fa H ht => (by cases ht), fun fuel done rem L listed f fa H x hx hc hi hfu hv hir => ?_⟩
    simp only [planT, Bool.and_eq_true, Bool.not_eq_true'] at hc
    obtain ⟨⟨⟨⟨⟨c1, c2⟩, c3⟩, c4⟩, c5⟩, c6⟩ := hc
    obtain ⟨v1, v2⟩ := hv
    rcases List.mem_cons.1 hx with rfl | hx
    · cases ho : ops[x]? with
      | none => rw [ho] at c3; cases c3
      | some o =>
        rw [ho] at c3 v1
        exact ⟨o, rfl, c2, vx_impK htab hsm hlt hi hir ho c2 c1 c3 (fun L' listed' f' fa' H' hi' hl' hk' => iht.1 fuel _ _ L' listed' f' fa' H' c4 c5 hi' hl' hk') hfu v1⟩
    · exact ihm.2 fuel done rem L listed f fa H x hx c6 hi hfu v2 hir
  | fork pre ats iha =>
    refine ⟨fun fuel done rem L listed f fa H _ hc hi hfu hv => ?_, fun fuel done rem L listed f fa H x hx => (by cases hx)⟩
    refine vp_sound htab hsm hlt ?_ pre fuel done rem L listed f fa H hc hi hfu hv
    clear hc hi hfu hv
    intro fuel
    induction fuel with
    | zero =>
      intro done rem L listed f fa H hc hi hfu hv
      exfalso
      simp only [Bool.and_eq_true, List.all_eq_true, Bool.not_eq_true', List.isEmpty_eq_false_iff_exists_mem] at hc
      obtain ⟨⟨⟨_, h2⟩, x, h3⟩, _⟩ := hc
      have := List.length_pos_of_mem (List.contains_iff_mem.1 (h2 x h3))
      omega
    | succ fuel ih =>
      intro done rem L listed f fa H hc hi hfu hv
      have hc0 := hc
      simp only [Bool.and_eq_true, List.all_eq_true, Bool.not_eq_true', List.isEmpty_eq_false_iff_exists_mem, List.any_eq_true, Bool.or_eq_true, beq_iff_eq] at hc
      obtain ⟨⟨⟨hall, h2⟩, y, h3⟩, h4⟩ := hc
      refine ⟨fun hn => ?_, fun x hir => ?_⟩
      · obtain ⟨rfl, _⟩ := sinv_ready hsm hlt hi hn
        cases List.contains_iff_mem.1 (h2 y h3)
      · obtain ⟨m1, o, m2, m3⟩ := mem_ready.1 hir
        have hil := (Array.getElem?_eq_some_iff.1 m2).1
        rw [getD_tf (by rw [hi.size]; exact hil)] at m1
        rcases (hi.un x hil).1 m1 with hm | hm
        · obtain ⟨h, hh, hx⟩ := hall x hm
          rcases hx with rfl | hx
          · obtain ⟨o', g1, g2, g3⟩ := iha.2 fuel done rem L listed f fa H x hh h4 hi hfu hv hir
            refine ⟨o', g1, ?_⟩
            rw [if_neg (by simp [g2])]
            exact g3
          · exfalso
            have hhr := List.contains_iff_mem.1 (h2 h hh)
            have := reach_listed hi.closed (maskOf_spec htab hx) fun o' ho' e he hb => m3 e (by rw [m2] at ho'; cases ho'; exact he) hb
            have h5 := (hi.un h (hi.remlt h hhr)).2 (.inl hhr)
            rw [this] at h5; cases h5
        · obtain ⟨o', r, ho, hpu', hst, hinv⟩ := sinv_late hsm hlt hi hir hm
          refine ⟨o', ho, ?_⟩
          rw [if_pos hpu']
          have hlen := List.length_erase_of_mem hm
          have hpos := List.length_pos_of_mem hm
          exact ⟨r, hst, ih done rem (L.erase x) _ f _ H hc0 hinv (by omega) hv⟩
variable {hn : Nat → Bool}
def vcT (P : Program) (hn : Nat → Bool) (ops : Array Oper) (Q : AQ) (ds : List ADef) : FT → Fr → List Blk → Prop
  | .lin p, f, H => vcX P hn ops Q ds p f H
  | .fork pre ats, f, H => vcX P hn ops (fun x f' H' ds' => match x with | .normal => vcT P hn ops Q ds ats f' H' | x => Q x f' H' ds') ds (pre.map fun i => (i, [])) f H
  | .alt i lt t more, f, H => vcL P hn true ops (opsAt ops [i]) (thenQ (fun f' H' _ => lateV P hn ops f' H' (opsAt ops lt) ∧ vcT P hn ops Q ds t f' H') Q) f H ds ∧ vcT P hn ops Q ds more f H
  | .none, _, _ => True
def FT.lates : FT → OPlan
  | .lin p => p
  | .fork _ ats => ats.lates
  | .alt i lt t more => (i, lt) :: (t.lates ++ more.lates)
  | .none => []
theorem vp_of_vcX {ops : Array Oper} {Q : AQ} {ds : List ADef} (hnd : ops.all noDefer = true) {tab : List (Nat × Oper × Nat)} {kb : List Nat → List Nat → Bool} {kv kv' : Fr → List Blk → Prop} :
    ∀ (p done rem : List Nat) (f : Fr) (H : List Blk), planP (puOf (pureOp hn) ops) ops tab kb done rem p = true → (∀ done rem f H, kb done rem = true → kv' f H → kv f H) → vcX P hn ops (fun x f' H' ds' => match x with | .normal => kv' f' H' | x => Q x f' H' ds') ds (p.map fun i => (i, [])) f H → VP P hfreeOp ops kv p f H
  | [], done, rem, f, H, hc, hk, h => hk done rem f H hc h
  | i :: p, done, rem, f, H, hc, hk, h => by
    simp only [planP, Bool.and_eq_true] at hc
    obtain ⟨⟨⟨hrd, hpu⟩, hop⟩, hrest⟩ := hc
    simp only [List.map_cons, vcX] at h
    simp only [VP]
    cases ho : ops[i]? with
    | none => rw [ho] at hop; cases hop
    | some o =>
      have hndo : noDefer o = true := Array.all_eq_true_iff_forall_mem.1 hnd _ (Array.mem_of_getElem? ho)
      have hone : opsAt ops [i] = [o] := by simp [opsAt, ho]
      rw [hone] at h
      obtain ⟨r, h1, h2, h3⟩ := one_det hndo (pureOf_pu ho hpu) h
      exact ⟨r, h1, h2, vp_of_vcX hnd p _ _ _ _ hrest hk h3.2⟩
theorem vt_of_vcT {ops : Array Oper} {Q : AQ} {ds : List ADef} (hnd : ops.all noDefer = true) {tab : List (Nat × Oper × Nat)} (t : FT) : ∀ (done rem : List Nat) (f : Fr) (H : List Blk), planT (puOf (pureOp hn) ops) hfreeOp ops tab t done rem = true →
    (∀ x ∈ t.lates, ∀ j ∈ x.2, ∀ o, ops[j]? = some o → puOf (pureOp hn) ops j = true) → vcT P hn ops Q ds t f H → VT P (puOf (pureOp hn) ops) hfreeOp ops Q ds t f H := by
  induction t with
  | lin p => exact fun done rem f H hc hl h => vx_of_vcX hnd p _ _ _ _ hc hl h
  | none => exact fun done rem f H hc hl h => trivial
  | fork pre ats iha =>
    intro done rem f H hc hl h
    refine vp_of_vcX hnd pre done rem f H hc (fun done rem f H hb hv => ?_) h
    simp only [Bool.and_eq_true] at hb
    exact iha done rem f H hb.2 hl hv
  | alt i lt t more iht ihm =>
    intro done rem f H hc hl h
    simp only [planT, Bool.and_eq_true, Bool.not_eq_true'] at hc
    obtain ⟨⟨⟨⟨⟨c1, c2⟩, c3⟩, c4⟩, c5⟩, c6⟩ := hc
    obtain ⟨v1, v2⟩ := h
    refine ⟨?_, ihm done rem f H c6 (fun x hx => hl x (by simp [FT.lates, hx])) v2⟩
    cases ho : ops[i]? with
    | none => rw [ho] at c3; cases c3
    | some o =>
      have hndo : noDefer o = true := Array.all_eq_true_iff_forall_mem.1 hnd _ (Array.mem_of_getElem? ho)
      have hone : opsAt ops [i] = [o] := by simp [opsAt, ho]
      rw [hone] at v1
      refine stepB_mono (fun f' H' hk => ⟨fun j hj oj hoj => ?_, iht _ _ _ _ c5 (fun x hx => hl x (by simp [FT.lates, hx])) hk.2⟩) (one_bar (Q := Q) (Q' := thenQ (fun f' H' _ => lateV P hn ops f' H' (opsAt ops lt) ∧ vcT P hn ops Q ds t f' H') Q) (fun _ _ _ _ h => h) hndo v1)
      have hpj := hl (i, lt) (by simp [FT.lates]) j hj oj hoj
      have hndj : noDefer oj = true := Array.all_eq_true_iff_forall_mem.1 hnd _ (Array.mem_of_getElem? hoj)
      have hv := lateV_mem hk.1 oj (by simp only [opsAt, List.mem_filterMap]; exact ⟨j, hj, hoj⟩)
      obtain ⟨r, h1, _, h3⟩ := one_det hndj (pureOf_pu hoj hpj) hv
      refine ⟨r, h1, fun d hd => ?_⟩
      simp only [lateQ, hd] at h3
      have := h3.2
      simpa [updO, upd] using this.symm
def treeB (hn : Nat → Bool) (n : Nat) (ops : Array Oper) (t : FT) : Bool :=
  ops.toList.all (smallO n ops) && t.top && planT (puOf (pureOp hn) ops) hfreeOp ops (mkTab ops [] (List.range ops.size)) t [] (List.range ops.size) && lateB (puOf (pureOp hn) ops) ops t.lates &&
  ((List.range ops.size).all fun j => match ops[j]? with
    | none => true
    | some o => o.after.toList.all fun e => !Region.binds .any e || decide (e.on < j)) && ops.all noDefer
def vcTW (P : Program) (hn : Nat → Bool) (t : FT) (ops : Array Oper) (Q : AQ) (f : Fr) (H : List Blk) (ds : List ADef) (_ : Wit (hn, ops, Q, f, H, ds)) : Prop := vcT P hn ops Q ds t f H
def treeQ (P : Program) (hn : Nat → Bool) (ops : Array Oper) (Q : AQ) (ds : List ADef) (ats : FT) : AQ := fun x f' H' ds' => match x with | .normal => vcT P hn ops Q ds ats f' H' | x => Q x f' H' ds'
theorem awp_region_tree (hn : Nat → Bool) (t : FT) {id : Nat} {ops : Array Oper} {Q : AQ} {f : Fr} {H : List Blk} {ds : List ADef} (hs : (treeB hn n ops t && P.follows .mixedOrders) = true)
    (h : vcTW P hn t ops Q f H ds (wit _)) : AWP P n (.region id ops true) Q f H ds := by
  simp only [treeB, Bool.and_eq_true, List.all_eq_true] at hs
  obtain ⟨⟨⟨⟨⟨⟨hs1, ht⟩, hs2⟩, hs3⟩, hs5⟩, hs6⟩, hm⟩ := hs
  have hsm : ∀ (i : Nat) (o : Oper), ops[i]? = some o → smallO n ops o = true := fun i o ho => hs1 o (by simpa using Array.mem_of_getElem? ho)
  have lt : ∀ p : OPlan, lateB (puOf (pureOp hn) ops) ops p = true → ∀ x ∈ p, ∀ j ∈ x.2, ∀ o, ops[j]? = some o → puOf (pureOp hn) ops j = true := fun p hp x hx j hj o ho => by
    simp only [lateB, List.all_eq_true] at hp
    have := hp x hx j hj
    rw [ho] at this; exact this
  have hv := vt_of_vcT hs6 t [] (List.range ops.size) f H hs2 (lt _ hs3) h
  intro ro hro B w0 cx0 cx a h1 h2 h3 h4 h5
  subst h3
  refine wpIn_region_any hm ?_
  refine aa_sound (P := P) (pu := puOf (pureOp hn) ops) (Q := Q) (B := B) (w0 := w0) (cx0 := cx0) (ro := ro) (fun i o ho hs => by have := hro hs; simp only [noDefC, List.all_eq_true] at this; exact this o (by simpa using Array.mem_of_getElem? ho)) hsm ops.size (Array.replicate ops.size false) f cx.drew a ?_ (hrel_drew h1) (h2.trans (le_drew cx)) (h4.mono (le_drew cx)) (h5.mono (le_drew cx))
  refine (vt_sound (hf := hfreeOp) (mkTab_ok (List.range ops.size) [] (fun d hd => (by cases hd))) hsm (fun j o ho e he hb => ?_) t).1 ops.size [] (List.range ops.size) [] _ f f cx.H ht hs2 ⟨by simp, fun i hi => ?_, fun i hi => by simpa using hi, fun i o ho hl => ?_, fun i hi => by simp [hi], fun i o ho hn => ?_, List.nodup_nil, List.nodup_range, fun j hj => (by cases hj), fun t _ => rfl⟩ (by simp) hv
  · have := hs5 j (List.mem_range.2 (Array.getElem?_eq_some_iff.1 ho).1)
    rw [ho] at this
    simp only [List.all_eq_true] at this
    have := this e (by simpa using he)
    simpa [hb] using this
  · simp [Array.getD_eq_getD_getElem?, Array.getElem?_replicate, hi]
  · exfalso
    have hlt : i < ops.size := (Array.getElem?_eq_some_iff.1 ho).1
    simp [Array.getD_eq_getD_getElem?, Array.getElem?_replicate, hlt] at hl
  · exfalso
    exact hn (by simpa using (Array.getElem?_eq_some_iff.1 ho).1)
@[simp ↓] theorem vcTW_lin (l : List Oper) (Q : AQ) (ds : List ADef) (p : OPlan) (f : Fr) (H : List Blk) (w : Wit (hn, l.toArray, Q, f, H, ds)) : vcTW P hn (.lin p) l.toArray Q f H ds w = vcXW P hn p l.toArray Q f H ds (wit _) := (rfl)
@[simp ↓] theorem vcTW_fork (l : List Oper) (Q : AQ) (ds : List ADef) (pre : List Nat) (ats : FT) (f : Fr) (H : List Blk) (w : Wit (hn, l.toArray, Q, f, H, ds)) : vcTW P hn (.fork pre ats) l.toArray Q f H ds w = vcXW P hn (pre.map fun i => (i, [])) l.toArray (treeQ P hn l.toArray Q ds ats) f H ds (wit _) := (rfl)
@[simp ↓] theorem vcTW_none (l : List Oper) (Q : AQ) (ds : List ADef) (f : Fr) (H : List Blk) (w : Wit (hn, l.toArray, Q, f, H, ds)) : vcTW P hn .none l.toArray Q f H ds w = True := (rfl)
@[simp ↓] theorem vcTW_alt (l : List Oper) (Q : AQ) (ds : List ADef) (i : Nat) (lt : List Nat) (t more : FT) (f : Fr) (H : List Blk) (w : Wit (hn, l.toArray, Q, f, H, ds)) : vcTW P hn (.alt i lt t more) l.toArray Q f H ds w =
    (vcDW P hn (opsL l [i]) l.toArray (thenQ (fun f' H' _ => lateW P hn (opsL l lt) l.toArray f' H' (wit _) ∧ vcTW P hn t l.toArray Q f' H' ds (wit _)) Q) f H ds (wit _) ∧ vcTW P hn more l.toArray Q f H ds (wit _)) := by
  simp only [vcTW, vcT, vcDW, lateW, opsAt, opsL_eq, List.getElem?_toArray]
@[simp ↓] theorem QW_treeN (l : List Oper) (Q : AQ) (ds0 : List ADef) (ats : FT) (f : Fr) (H : List Blk) (ds : List ADef) (w : Wit (treeQ P hn l.toArray Q ds0 ats, AX.normal, f, H, ds)) : QW (treeQ P hn l.toArray Q ds0 ats) .normal f H ds w = vcTW P hn ats l.toArray Q f H ds0 (wit _) := (rfl)
end
end Go.Mu
namespace Go.Proofs
open Go.Mu
mutual
def Ex.eqB : Ex → Ex → Bool
  | .mk o w n a, .mk o' w' n' a' => decide (o = o') && decide (w = w') && decide (n = n') && exsEq a a'
def exsEq : List Ex → List Ex → Bool
  | [], [] => true
  | x :: a, y :: b => x.eqB y && exsEq a b
  | _, _ => false
end
theorem Ex.eqB_eq (x y : Ex) : x.eqB y = (decide (x.op = y.op) && decide (x.word = y.word) && decide (x.name = y.name) && exsEq x.args y.args) := by cases x; cases y; rw [Ex.eqB]; rfl
theorem exs_iff (m : Nat) : (∀ x : Ex, x.count ≤ m → ∀ y, x.eqB y = true ↔ x = y) ∧ (∀ a, exsCount a ≤ m → ∀ b, exsEq a b = true ↔ a = b) := by
  induction m with
  | zero =>
    refine ⟨fun x hx y => ?_, fun l hl b => ?_⟩
    · rw [Ex.count_eq] at hx; omega
    · have := exs_len l; obtain rfl : l = [] := List.eq_nil_of_length_eq_zero (by omega); cases b <;> simp [exsEq]
  | succ m ih =>
    have hx : ∀ x : Ex, x.count ≤ m + 1 → ∀ y, x.eqB y = true ↔ x = y := fun x hx y => by
      have hc := Ex.count_eq x
      rw [Ex.eqB_eq, Bool.and_eq_true, ih.2 x.args (by omega)]
      cases x
      cases y
      simp only [Bool.and_eq_true, Ex.op, Ex.word, Ex.name, Ex.args, Ex.mk.injEq]
      constructor
      · rintro ⟨⟨⟨a, b⟩, c⟩, d⟩; exact ⟨of_decide_eq_true a, of_decide_eq_true b, of_decide_eq_true c, d⟩
      · rintro ⟨a, b, c, d⟩; exact ⟨⟨⟨decide_eq_true a, decide_eq_true b⟩, decide_eq_true c⟩, d⟩
    refine ⟨hx, fun l => ?_⟩
    induction l with
    | nil => intro _ b; cases b <;> simp [exsEq]
    | cons x l ihl =>
      intro hl b
      simp only [exsCount] at hl
      cases b with
      | nil => simp [exsEq]
      | cons y b => rw [exsEq, Bool.and_eq_true, ihl (by rw [Ex.count_eq] at hl; omega), hx x (by omega), List.cons.injEq]
theorem ex_same (x y : Ex) : x.eqB y = true ↔ x = y := (exs_iff _).1 x (Nat.le_refl _) y
theorem exs_same (a b : List Ex) : exsEq a b = true ↔ a = b := (exs_iff _).2 a (Nat.le_refl _) b
theorem ex_refl (x : Ex) : x.eqB x = true := (ex_same x x).2 rfl
theorem exsEq_len {a b : List Ex} (h : exsEq a b = true) : a.length = b.length := by rw [(exs_same a b).1 h]
theorem rex_ok (m : Nat) : ∀ (x y : Ex), x.count < m → x.count ≤ 2^40 → y.count ≤ 2^40 → ∀ (H : List Blk), ACalls Tryz.prog 26 [.agg x.cells, .agg y.cells] H (fun e H' => e = .ret (Bo (x.eqB y)) ∧ H' = H) := by
  induction m with
  | zero => intro a b h; omega
  | succ m ih =>
    intro x y hm hcx hcy H
    refine acalls_tidy (acalls_of_awp Tryz.func26 rfl (by kernel_rfl) ?_)
    have hx := Ex.count_eq x
    have hy := Ex.count_eq y
    have hlx := exs_len x.args
    have hly := exs_len y.args
    obtain ⟨E, hE⟩ : ∃ E, E = x.eqB y := ⟨_, rfl⟩
    rw [← hE]
    rw [Ex.eqB_eq] at hE
    obtain ⟨V, hV⟩ : ∃ V, V = H ++ [.box 73 x.cells, .box 73 y.cells] := ⟨_, rfl⟩
    have hVx : V[H.length]? = some (.box 73 x.cells) := by rw [hV]; simp
    have hVy : V[H.length + 1]? = some (.box 73 y.cells) := by rw [hV]; simp
    have finV : ∀ b, b = E → Tidy H (fun e H' => e = .ret (Bo E) ∧ H' = H) (.ret (Bo b)) V := fun b h => by rw [h, hV]; exact tidy_same rfl ⟨rfl, rfl⟩
    refine awp_cut (fun _ => false) (fun _ => none) (fun f H' => V = H' ∧ f 2 = .bp H.length 0 ∧ f 3 = .bp (H.length + 1) 0) (by kernel_rfl) ?_ ?_
    · simp -dsimp [hV]
    simp only [Ex.cells_eq] at hVx hVy
    clear hV
    rintro g _ ⟨rfl, g2, g3⟩
    refine awp_cut (fun _ => false) (fun _ => none) (fun f H' => V = H' ∧ f 2 = .bp H.length 0 ∧ f 3 = .bp (H.length + 1) 0 ∧ x.args.length = y.args.length ∧ exsEq x.args y.args = E) (by kernel_rfl) ?_ ?_
    · replace hE := Hid.mk hE
      by_cases h1 : x.op = y.op
      rotate_left
      · have hb : (x.op != y.op) = true := by simpa using h1
        simp -dsimp [g2, g3, hVx, hVy, hb]
        exact finV false (by rw [hE.out, decide_eq_false h1]; rfl)
      by_cases h2 : x.word = y.word
      rotate_left
      · have hb : (x.word != y.word) = true := by simpa using h2
        simp -dsimp [g2, g3, hVx, hVy, h1, hb]
        exact finV false (by rw [hE.out, decide_eq_false h2, Bool.and_false]; rfl)
      by_cases h3 : x.name = y.name
      rotate_left
      · simp -dsimp [g2, g3, hVx, hVy, h1, h2, h3]
        exact finV false (by rw [hE.out, decide_eq_false h3, Bool.and_false]; rfl)
      by_cases h4 : x.args.length = y.args.length
      rotate_left
      · have hb : ((x.args.length : Int) != (y.args.length : Int)) = true := by simp; omega
        simp -dsimp [g2, g3, hVx, hVy, h1, h2, h3, hb]
        exact finV false (by
          rw [hE.out]
          cases hh : exsEq x.args y.args
          · rw [Bool.and_false]
          · exact absurd (exsEq_len hh) h4)
      simp -dsimp [g2, g3, hVx, hVy, h1, h2, h3, h4]
      rw [hE.out, decide_eq_true h1, decide_eq_true h2, decide_eq_true h3]
      rfl
    clear g g2 g3 hE
    rintro g _ ⟨rfl, g2, g3, hl, hinv⟩
    refine awp_all (fun _ => false) (fun _ => none) (by kernel_rfl) ?_
    simp -dsimp [g2, g3]
    refine loop_rule (hn := fun _ => false) (od := fun _ => none) (fun (j : Nat) f H' => V = H' ∧ f 2 = .bp H.length 0 ∧ f 3 = .bp (H.length + 1) 0 ∧ f 5 = I j ∧ j ≤ x.args.length ∧ exsEq (x.args.drop j) (y.args.drop j) = E) (fun j => x.args.length - j) (by kernel_rfl) 0 (by
      simp [g2, g3]
      exact hinv) ?_
    clear g g2 g3 hinv
    rintro j g _ ⟨rfl, g2, g3, g5, hj, hinv⟩
    simp -dsimp [g2, g3, g5, hVx]
    refine condVW_introD (fun hjt => ?_) (fun hjt => ?_)
    · have hjt2 : j < y.args.length := by omega
      rw [drop_cons hjt, drop_cons hjt2, exsEq] at hinv
      have hgs := exs_get hjt
      have hgs2 := exs_get hjt2
      have e3 := List.getElem?_eq_getElem hjt
      have e4 := List.getElem?_eq_getElem hjt2
      obtain ⟨w, hw⟩ : ∃ w, w = x.args[j] := ⟨_, rfl⟩
      obtain ⟨z, hz⟩ : ∃ z, z = y.args[j] := ⟨_, rfl⟩
      rw [← hw] at hinv e3 hgs
      rw [← hz] at hinv e4 hgs2
      clear hw hz
      have cr := ih w z (by omega) (by omega) (by omega) V
      simp only [Ex.cells_eq] at cr
      simp -dsimp [g2, g3, g5, hVx, hVy, e3, e4]
      refine callDW_intro cr ?_
      cases hwz : w.eqB z
      · rw [hwz] at hinv
        simp -dsimp
        exact finV false (by rw [← hinv]; rfl)
      · rw [hwz] at hinv
        simp -dsimp [g2, g3, g5]
        exact ⟨j + 1, by omega, wrapS (by omega), by omega, by simpa using hinv⟩
    · have h1 : x.args.drop j = [] := List.drop_eq_nil_of_le (by omega)
      have h2 : y.args.drop j = [] := List.drop_eq_nil_of_le (by omega)
      rw [h1, h2, exsEq] at hinv
      simp -dsimp [g2, g3]
      exact finV true hinv
end Go.Proofs
namespace Go.Proofs
open Go.Mu
mutual
def Sm.eqB : Sm → Sm → Bool
  | .mk k n ns e a l lo hi b el, .mk k' n' ns' e' a' l' lo' hi' b' el' => decide (k = k') && decide (n = n') && decide (lo = lo') && decide (hi = hi') && decide (ns = ns') && exsEq l l' && e.eqB e' && a.eqB a' && smsEq b b' && smsEq el el'
def smsEq : List Sm → List Sm → Bool
  | [], [] => true
  | x :: a, y :: b => x.eqB y && smsEq a b
  | _, _ => false
end
theorem Sm.eqB_eq (x y : Sm) : x.eqB y = (decide (x.kind = y.kind) && decide (x.name = y.name) && decide (x.low = y.low) && decide (x.high = y.high) && decide (x.names = y.names) && exsEq x.args y.args && x.e.eqB y.e && x.a.eqB y.a && smsEq x.body y.body && smsEq x.els y.els) := by cases x; cases y; rw [Sm.eqB]; rfl
theorem sms_iff (m : Nat) : ∀ a, smsCount a ≤ m → ∀ b, smsEq a b = true ↔ a = b := by
  induction m with
  | zero => intro l hl b; have := sms_len l; obtain rfl : l = [] := List.eq_nil_of_length_eq_zero (by omega); cases b <;> simp [smsEq]
  | succ m ih =>
    intro l
    induction l with
    | nil => intro _ b; cases b <;> simp [smsEq]
    | cons x l ihl =>
      intro hl b
      simp only [smsCount] at hl
      have hc := Sm.count_eq x
      cases b with
      | nil => simp [smsEq]
      | cons y b =>
        have h1 := ih x.body (by omega)
        have h2 := ih x.els (by omega)
        rw [smsEq, Bool.and_eq_true, ihl (by omega), Sm.eqB_eq]
        simp only [Bool.and_eq_true, h1, h2, ex_same, exs_same, decide_eq_true_eq]
        cases x
        cases y
        simp only [Sm.kind, Sm.name, Sm.low, Sm.high, Sm.names, Sm.args, Sm.e, Sm.a, Sm.body, Sm.els, List.cons.injEq, Sm.mk.injEq]
        constructor
        · rintro ⟨⟨⟨⟨⟨⟨⟨⟨⟨⟨a, b⟩, c⟩, d⟩, e⟩, f⟩, g⟩, h⟩, i⟩, j⟩, k⟩; exact ⟨⟨a, b, e, g, h, f, c, d, i, j⟩, k⟩
        · rintro ⟨⟨a, b, e, g, h, f, c, d, i, j⟩, k⟩; exact ⟨⟨⟨⟨⟨⟨⟨⟨⟨⟨a, b⟩, c⟩, d⟩, e⟩, f⟩, g⟩, h⟩, i⟩, j⟩, k⟩
theorem sms_same (a b : List Sm) : smsEq a b = true ↔ a = b := sms_iff _ a (Nat.le_refl _) b
theorem smsEq_len {a b : List Sm} (h : smsEq a b = true) : a.length = b.length := by rw [(sms_same a b).1 h]
def sameT7 : FT := .fork [0, 1, 2, 3, 4, 5, 6, 7]
  (.alt 8 [2, 3, 6, 7] (.lin [(9, [2, 3, 6, 7]), (10, [6, 7]), (11, [])])
  (.alt 9 [2, 3, 6, 7] (.lin [(8, [2, 3, 6, 7]), (10, [6, 7]), (11, [])]) .none))
def SameS (H : List Blk) (x y : Sm) (f6 f7 : AV) (H' : List Blk) : Prop := ∃ u v R, H' = H ++ R ∧ H'[u]? = some (.box 82 x.cells) ∧ H'[v]? = some (.box 82 y.cells) ∧ f6 = .bp u 0 ∧ f7 = .bp v 0
theorem rsms_ok (m : Nat) : ∀ (a b : List Sm), smsCount a < m → smsCount a ≤ 2^40 → smsCount b ≤ 2^40 → ∀ (H : List Blk), ACalls Tryz.prog 50 [Sm.sl a, Sm.sl b] H (fun e H' => e = .ret (Bo (smsEq a b)) ∧ H' = H) := by
  induction m with
  | zero => intro a b h; omega
  | succ m ih =>
    intro a b hm hca hcb H
    refine acalls_tidy (acalls_of_awp Tryz.func50 rfl (by kernel_rfl) ?_)
    have hla := sms_len a
    have hlb := sms_len b
    obtain ⟨E, hE⟩ : ∃ E, E = smsEq a b := ⟨_, rfl⟩
    rw [← hE]
    have fin : ∀ b L, b = E → Tidy H (fun e H' => e = .ret (Bo E) ∧ H' = H) (.ret (Bo b)) (H ++ L) := fun b L h => by rw [h]; exact tidy_same rfl ⟨rfl, rfl⟩
    have fin0 : ∀ b, b = E → Tidy H (fun e H' => e = .ret (Bo E) ∧ H' = H) (.ret (Bo b)) H := fun b h => by have := fin b [] h; simpa using this
    refine awp_cut (fun _ => false) (fun _ => none) (fun f H' => H = H' ∧ f 0 = Sm.sl a ∧ f 1 = Sm.sl b) (by kernel_rfl) ?_ ?_
    · simp -dsimp
    rintro g _ ⟨rfl, g0, g1⟩
    refine awp_cut (fun _ => false) (fun _ => none) (fun f H' => H = H' ∧ f 0 = Sm.sl a ∧ f 1 = Sm.sl b ∧ a.length = b.length) (by kernel_rfl) ?_ ?_
    · simp -dsimp [g0, g1]
      refine condVW_introNE (fun h1 h1a h1b => ?_) (fun h1 => ?_)
      · simp -dsimp
        exact fin0 _ (by rw [hE]; cases hh : smsEq a b; rfl; exact absurd (by rw [smsEq_len hh]) h1)
      · simp -dsimp [g0, g1]
        omega
    clear g g0 g1
    rintro g _ ⟨rfl, g0, g1, hlen⟩
    refine awp_cutA (fun f H' => (∃ L, H' = H ++ L) ∧ E = true) ?_ ?_
    rotate_left
    · clear g g0 g1
      rintro g _ ⟨⟨L, rfl⟩, h⟩
      refine awp_all (fun _ => false) (fun _ => none) (by kernel_rfl) ?_
      simp -dsimp
      exact fin _ _ h.symm
    refine awp_cut (fun _ => false) (fun _ => none) (fun f H' => H = H' ∧ f 0 = Sm.sl a ∧ f 1 = Sm.sl b ∧ f 5 = I 0) (by kernel_rfl) ?_ ?_
    · simp -dsimp [g0, g1]
    clear g g0 g1
    rintro g _ ⟨rfl, g0, g1, g5⟩
    refine awp_block ?_
    refine awp_loopI (fun (i : Nat) f H' => (∃ L, H' = H ++ L) ∧ f 0 = Sm.sl a ∧ f 1 = Sm.sl b ∧ f 5 = I i ∧ i ≤ a.length ∧ smsEq (a.drop i) (b.drop i) = E) (fun i => a.length - i) 0 ⟨⟨[], by simp⟩, g0, g1, g5, by omega, by rw [hE]; simp⟩ ?_
    clear g g0 g1 g5 hE
    rintro i g _ ⟨⟨L, rfl⟩, g0, g1, g5, hi, hinv⟩
    refine awp_cut (fun _ => false) (fun _ => none) (fun f H' => H' = H ++ L ∧ f 0 = Sm.sl a ∧ f 1 = Sm.sl b ∧ f 5 = I i ∧ i < a.length) (by kernel_rfl) ?_ ?_
    · simp -dsimp [g0, g1, g5]
      refine condVW_introD (fun hlt => ?_) (fun hlt => ?_)
      · simp -dsimp [g0, g1, g5]
        omega
      · have h1 : a.drop i = [] := List.drop_eq_nil_of_le (by omega)
        have h2 : b.drop i = [] := List.drop_eq_nil_of_le (by omega)
        rw [h1, h2, smsEq] at hinv
        simp -dsimp
        exact hinv.symm
    clear g g0 g1 g5
    rintro g _ ⟨rfl, g0, g1, g5, hlt⟩
    have hltb : i < b.length := by omega
    rw [drop_cons hlt, drop_cons hltb, smsEq, Sm.eqB_eq] at hinv
    have hgx := sms_get hlt
    have hgy := sms_get hltb
    have e1 := List.getElem?_eq_getElem hlt
    have e2 := List.getElem?_eq_getElem hltb
    obtain ⟨x, hx⟩ : ∃ x, x = a[i] := ⟨_, rfl⟩
    obtain ⟨y, hy⟩ : ∃ y, y = b[i] := ⟨_, rfl⟩
    rw [← hx] at hinv e1 hgx
    rw [← hy] at hinv e2 hgy
    clear hx hy
    have hcx := Sm.count_eq x
    have hcy := Sm.count_eq y
    have hxa := exs_len x.args
    have hya := exs_len y.args
    refine awp_cutA (fun f H' => (∃ L, H' = H ++ L) ∧ f 0 = Sm.sl a ∧ f 1 = Sm.sl b ∧ f 5 = I i ∧ smsEq (a.drop (i + 1)) (b.drop (i + 1)) = E) ?_ ?_
    rotate_left
    · clear g g0 g1 g5
      rintro g _ ⟨⟨L, rfl⟩, g0, g1, g5, hinv⟩
      refine awp_all (fun _ => false) (fun _ => none) (by kernel_rfl) ?_
      simp -dsimp [g0, g1, g5]
      exact ⟨i + 1, by omega, wrapS (by omega), by omega, hinv⟩
    refine awp_block ?_
    obtain ⟨K, hK⟩ : ∃ K, K = smsEq (a.drop (i + 1)) (b.drop (i + 1)) := ⟨_, rfl⟩
    rw [← hK] at hinv ⊢
    refine awp_cutA (fun f H' => SameS H x y (f 6) (f 7) H' ∧ f 0 = Sm.sl a ∧ f 1 = Sm.sl b ∧ f 5 = I i) ?_ ?_
    · refine awp_region_tree (fun d => false) sameT7 (by kernel_rfl) ?_
      have fin2 : ∀ u v R X Y, (H ++ (L ++ R))[u]? = some (Blk.box 82 X) → (H ++ (L ++ R))[v]? = some (Blk.box 82 Y) → X = x.cells → Y = y.cells → SameS H x y (.bp u 0) (.bp v 0) (H ++ (L ++ R)) := fun u v R X Y p q hX hY => by
        subst hX hY
        exact ⟨u, v, _, rfl, p, q, rfl, rfl⟩
      simp -dsimp [sameT7, g0, g1, g5, e1, e2]
      refine ⟨fin2 _ _ _ _ _ ?_ ?_ (Sm.cells_eq x).symm (Sm.cells_eq y).symm, fin2 _ _ _ _ _ ?_ ?_ (Sm.cells_eq x).symm (Sm.cells_eq y).symm⟩
      · rw [List.getElem?_append_right (by omega), Nat.add_sub_cancel_left, List.getElem?_append_right (by omega), Nat.sub_self]; rfl
      · rw [List.getElem?_append_right (by omega), Nat.add_sub_cancel_left, List.getElem?_append_right (by omega), Nat.add_sub_cancel_left]; rfl
      · rw [List.getElem?_append_right (by omega), Nat.add_sub_cancel_left, List.getElem?_append_right (by omega), Nat.add_sub_cancel_left]; rfl
      · rw [List.getElem?_append_right (by omega), Nat.add_sub_cancel_left, List.getElem?_append_right (by omega), Nat.sub_self]; rfl
    clear g g0 g1 g5
    rintro g V ⟨⟨u, v, R, hV, hVx, hVy, g6, g7⟩, g0, g1, g5⟩
    have finV : ∀ b, b = E → Tidy H (fun e H' => e = .ret (Bo E) ∧ H' = H) (.ret (Bo b)) V := fun b h => by rw [hV]; exact fin _ _ h
    have hVH : ∃ L', V = H ++ L' := ⟨_, hV⟩
    clear hV
    simp only [Sm.cells_eq] at hVx hVy
    refine awp_cut (fun _ => false) (fun _ => none) (fun f H' => V = H' ∧ f 0 = Sm.sl a ∧ f 1 = Sm.sl b ∧ f 5 = I i ∧ f 6 = .bp u 0 ∧ f 7 = .bp v 0 ∧ (decide (x.names = y.names) && exsEq x.args y.args && x.e.eqB y.e && x.a.eqB y.a && smsEq x.body y.body && smsEq x.els y.els && K) = E ∧ x.names.length = y.names.length ∧ x.args.length = y.args.length) (by kernel_rfl) ?_ ?_
    · replace hinv := Hid.mk hinv
      by_cases h1 : x.kind = y.kind
      rotate_left
      · have hkb : (x.kind != y.kind) = true := by simpa using h1
        simp -dsimp [g0, g1, g5, g6, g7, hVx, hVy, hkb]
        exact finV false (by rw [← hinv.out, decide_eq_false h1]; simp)
      by_cases h2 : x.name = y.name
      rotate_left
      · simp -dsimp [g0, g1, g5, g6, g7, hVx, hVy, h1, h2]
        exact finV false (by rw [← hinv.out, decide_eq_false h2]; simp)
      by_cases h3 : x.low = y.low
      rotate_left
      · have hkb : (x.low != y.low) = true := by simpa using h3
        simp -dsimp [g0, g1, g5, g6, g7, hVx, hVy, h1, h2, hkb]
        exact finV false (by rw [← hinv.out, decide_eq_false h3]; simp)
      by_cases h4 : x.high = y.high
      rotate_left
      · have hkb : (x.high != y.high) = true := by simpa using h4
        simp -dsimp [g0, g1, g5, g6, g7, hVx, hVy, h1, h2, h3, hkb]
        exact finV false (by rw [← hinv.out, decide_eq_false h4]; simp)
      by_cases h5 : x.names.length = y.names.length
      rotate_left
      · have hkb : ((x.names.length : Int) != (y.names.length : Int)) = true := by simp; omega
        simp -dsimp [g0, g1, g5, g6, g7, hVx, hVy, h1, h2, h3, h4, hkb]
        have hne : ¬ x.names = y.names := fun h => h5 (by rw [h])
        exact finV false (by rw [← hinv.out, decide_eq_false hne]; simp)
      by_cases h6 : x.args.length = y.args.length
      rotate_left
      · have hkb : ((x.args.length : Int) != (y.args.length : Int)) = true := by simp; omega
        simp -dsimp [g0, g1, g5, g6, g7, hVx, hVy, h1, h2, h3, h4, h5, hkb]
        have hne : exsEq x.args y.args = false := by
          cases hh : exsEq x.args y.args
          · rfl
          · exact absurd (exsEq_len hh) h6
        exact finV false (by rw [← hinv.out, hne]; simp)
      simp -dsimp [g0, g1, g5, g6, g7, hVx, hVy, h1, h2, h3, h4, h5, h6]
      rw [← hinv.out, decide_eq_true h1, decide_eq_true h2, decide_eq_true h3, decide_eq_true h4]
      rfl
    clear g g0 g1 g5 g6 g7 hinv
    rintro g _ ⟨rfl, g0, g1, g5, g6, g7, hinv, hln, hlargs⟩
    -- names
    refine awp_cutA (fun f H' => V = H' ∧ f 0 = Sm.sl a ∧ f 1 = Sm.sl b ∧ f 5 = I i ∧ f 6 = .bp u 0 ∧ f 7 = .bp v 0 ∧ (exsEq x.args y.args && x.e.eqB y.e && x.a.eqB y.a && smsEq x.body y.body && smsEq x.els y.els && K) = E) ?_ ?_
    · refine awp_all (fun _ => false) (fun _ => none) (by kernel_rfl) ?_
      obtain ⟨Z, hZ⟩ : ∃ Z, Z = (x.e.eqB y.e && x.a.eqB y.a && smsEq x.body y.body && smsEq x.els y.els && K) := ⟨_, rfl⟩
      have hz1 : (exsEq x.args y.args && x.e.eqB y.e && x.a.eqB y.a && smsEq x.body y.body && smsEq x.els y.els && K) = (exsEq x.args y.args && Z) := by rw [hZ]; simp only [Bool.and_assoc]
      have hz2 : (decide (x.names = y.names) && exsEq x.args y.args && x.e.eqB y.e && x.a.eqB y.a && smsEq x.body y.body && smsEq x.els y.els && K) = (decide (x.names = y.names) && (exsEq x.args y.args && Z)) := by rw [hZ]; simp only [Bool.and_assoc]
      rw [hz1]
      rw [hz2] at hinv
      clear hz1 hz2 hZ
      obtain ⟨Y, hY⟩ : ∃ Y, Y = (exsEq x.args y.args && Z) := ⟨_, rfl⟩
      rw [← hY] at hinv ⊢
      clear hY
      simp -dsimp [g0, g1, g5, g6, g7]
      refine loop_rule (hn := fun _ => false) (od := fun _ => none) (fun (j : Nat) f H' => V = H' ∧ f 0 = Sm.sl a ∧ f 1 = Sm.sl b ∧ f 5 = I i ∧ f 6 = .bp u 0 ∧ f 7 = .bp v 0 ∧ f 8 = I j ∧ j ≤ x.names.length ∧ (decide (x.names.drop j = y.names.drop j) && Y) = E) (fun j => x.names.length - j) (by kernel_rfl) 0 (by
        simp [g0, g1, g5, g6, g7]
        simpa using hinv) ?_
      clear g g0 g1 g5 g6 g7 hinv
      rintro j g _ ⟨rfl, g0, g1, g5, g6, g7, g8, hj, hinv⟩
      simp -dsimp [g0, g1, g5, g6, g7, g8, hVx]
      refine condVW_introD (fun hjt => ?_) (fun hjt => ?_)
      · have hjt2 : j < y.names.length := by omega
        rw [drop_cons hjt, drop_cons hjt2] at hinv
        have e3 := List.getElem?_eq_getElem hjt
        have e4 := List.getElem?_eq_getElem hjt2
        obtain ⟨w, hw⟩ : ∃ w, w = x.names[j] := ⟨_, rfl⟩
        obtain ⟨z, hz⟩ : ∃ z, z = y.names[j] := ⟨_, rfl⟩
        rw [← hw] at hinv e3
        rw [← hz] at hinv e4
        clear hw hz
        by_cases hwz : w = z
        · subst hwz
          simp -dsimp [g0, g1, g5, g6, g7, g8, hVx, hVy, e3, e4]
          exact ⟨j + 1, by omega, wrapS (by omega), by omega, by simpa using hinv⟩
        · simp -dsimp [g0, g1, g5, g6, g7, g8, hVx, hVy, e3, e4, hwz]
          exact finV false (by rw [← hinv, decide_eq_false (by simp [hwz])]; rfl)
      · have h1 : x.names.drop j = [] := List.drop_eq_nil_of_le (by omega)
        have h2 : y.names.drop j = [] := List.drop_eq_nil_of_le (by omega)
        rw [h1, h2] at hinv
        simp -dsimp [g0, g1, g5, g6, g7]
        simpa using hinv
    clear g g0 g1 g5 g6 g7 hinv
    rintro g _ ⟨rfl, g0, g1, g5, g6, g7, hinv⟩
    -- arguments
    refine awp_cutA (fun f H' => V = H' ∧ f 0 = Sm.sl a ∧ f 1 = Sm.sl b ∧ f 5 = I i ∧ f 6 = .bp u 0 ∧ f 7 = .bp v 0 ∧ (x.e.eqB y.e && x.a.eqB y.a && smsEq x.body y.body && smsEq x.els y.els && K) = E) ?_ ?_
    · refine awp_all (fun _ => false) (fun _ => none) (by kernel_rfl) ?_
      obtain ⟨Z, hZ⟩ : ∃ Z, Z = (x.e.eqB y.e && x.a.eqB y.a && smsEq x.body y.body && smsEq x.els y.els && K) := ⟨_, rfl⟩
      have hz1 : (exsEq x.args y.args && x.e.eqB y.e && x.a.eqB y.a && smsEq x.body y.body && smsEq x.els y.els && K) = (exsEq x.args y.args && Z) := by rw [hZ]; simp only [Bool.and_assoc]
      rw [← hZ]
      rw [hz1] at hinv
      clear hz1 hZ
      simp -dsimp [g0, g1, g5, g6, g7]
      refine loop_rule (hn := fun _ => false) (od := fun _ => none) (fun (j : Nat) f H' => V = H' ∧ f 0 = Sm.sl a ∧ f 1 = Sm.sl b ∧ f 5 = I i ∧ f 6 = .bp u 0 ∧ f 7 = .bp v 0 ∧ f 9 = I j ∧ j ≤ x.args.length ∧ (exsEq (x.args.drop j) (y.args.drop j) && Z) = E) (fun j => x.args.length - j) (by kernel_rfl) 0 (by
        simp [g0, g1, g5, g6, g7]
        simpa using hinv) ?_
      clear g g0 g1 g5 g6 g7 hinv
      rintro j g _ ⟨rfl, g0, g1, g5, g6, g7, g9, hj, hinv⟩
      simp -dsimp [g0, g1, g5, g6, g7, g9, hVx]
      refine condVW_introD (fun hjt => ?_) (fun hjt => ?_)
      · have hjt2 : j < y.args.length := by omega
        rw [drop_cons hjt, drop_cons hjt2, exsEq] at hinv
        have e3 := List.getElem?_eq_getElem hjt
        have e4 := List.getElem?_eq_getElem hjt2
        have hgw := exs_get hjt
        have hgz := exs_get hjt2
        obtain ⟨w, hw⟩ : ∃ w, w = x.args[j] := ⟨_, rfl⟩
        obtain ⟨z, hz⟩ : ∃ z, z = y.args[j] := ⟨_, rfl⟩
        rw [← hw] at hinv e3 hgw
        rw [← hz] at hinv e4 hgz
        clear hw hz
        have cr := rex_ok _ w z (Nat.lt_succ_self _) (by omega) (by omega) V
        simp only [Ex.cells_eq] at cr
        simp -dsimp [g0, g1, g5, g6, g7, g9, hVx, hVy, e3, e4]
        refine callDW_intro cr ?_
        cases hwz : w.eqB z
        · rw [hwz] at hinv
          simp -dsimp
          exact finV false (by rw [← hinv]; rfl)
        · rw [hwz] at hinv
          simp -dsimp [g0, g1, g5, g6, g7, g9]
          exact ⟨j + 1, by omega, wrapS (by omega), by omega, by simpa using hinv⟩
      · have h1 : x.args.drop j = [] := List.drop_eq_nil_of_le (by omega)
        have h2 : y.args.drop j = [] := List.drop_eq_nil_of_le (by omega)
        rw [h1, h2, exsEq] at hinv
        simp -dsimp [g0, g1, g5, g6, g7]
        simpa using hinv
    clear g g0 g1 g5 g6 g7 hinv
    rintro g _ ⟨rfl, g0, g1, g5, g6, g7, hinv⟩
    have c1 := rex_ok _ x.e y.e (Nat.lt_succ_self _) (by omega) (by omega) V
    have c2 := rex_ok _ x.a y.a (Nat.lt_succ_self _) (by omega) (by omega) V
    have c3 := ih x.body y.body (by omega) (by omega) (by omega) V
    have c4 := ih x.els y.els (by omega) (by omega) (by omega) V
    simp only [Ex.cells_eq] at c1 c2
    refine awp_all (fun _ => false) (fun _ => none) (by kernel_rfl) ?_
    replace hinv := Hid.mk hinv
    simp -dsimp [g0, g1, g5, g6, g7, hVx, hVy]
    refine acallsW_det c1 ?_
    cases k1 : x.e.eqB y.e
    · simp -dsimp
      exact finV false (by rw [← hinv.out, k1]; rfl)
    simp -dsimp [g0, g1, g5, g6, g7, hVx, hVy]
    refine acallsW_det c2 ?_
    cases k2 : x.a.eqB y.a
    · simp -dsimp
      exact finV false (by rw [← hinv.out, k2]; simp)
    simp -dsimp [g0, g1, g5, g6, g7, hVx, hVy]
    refine acallsW_det c3 ?_
    cases k3 : smsEq x.body y.body
    · simp -dsimp
      exact finV false (by rw [← hinv.out, k3]; simp)
    simp -dsimp [g0, g1, g5, g6, g7, hVx, hVy]
    refine acallsW_det c4 ?_
    cases k4 : smsEq x.els y.els
    · simp -dsimp
      exact finV false (by rw [← hinv.out, k4]; simp)
    simp -dsimp [g0, g1, g5]
    exact ⟨hVH, by rw [← hinv.out, k1, k2, k3, k4]; rfl⟩
end Go.Proofs
namespace Go.Proofs
open Go.Mu
theorem rsvars_ok (a b : List Vr) (ha : a.length ≤ 2^40) (hb : b.length ≤ 2^40) (H : List Blk) : ACalls Tryz.prog 49 [Vr.sl a, Vr.sl b] H (fun e H' => e = .ret (Bo (decide (a = b))) ∧ H' = H) := by
  refine acalls_tidy (acalls_of_vc (hn := fun _ => false) (od := fun _ => none) Tryz.func49 rfl (by kernel_rfl) ?_)
  obtain ⟨E, hE⟩ : ∃ E, E = decide (a = b) := ⟨_, rfl⟩
  rw [← hE]
  have fin0 : ∀ (b : Bool), b = E → Tidy H (fun e H' => e = .ret (Bo E) ∧ H' = H) (.ret (Bo b)) H := fun b h => by rw [h]; exact tidy_now rfl ⟨rfl, rfl⟩
  simp -dsimp
  refine condVW_introNE (fun h1 h1a h1b => ?_) (fun h1 => ?_)
  · simp -dsimp
    exact fin0 _ (by rw [hE, eq_comm]; exact decide_eq_false (fun h => h1 (by rw [h])))
  have hl : a.length = b.length := by omega
  simp -dsimp
  refine loop_rule (hn := fun _ => false) (od := fun _ => none) (fun (i : Nat) f H' => H = H' ∧ f 0 = Vr.sl a ∧ f 1 = Vr.sl b ∧ f 5 = I i ∧ i ≤ a.length ∧ E = decide (a.drop i = b.drop i)) (fun i => a.length - i) (by kernel_rfl) 0 (by simp; exact hE) ?_
  rintro i f _ ⟨rfl, h0, h1', h5, hi, hinv⟩
  simp -dsimp [h0, h1', h5]
  refine condVW_introD (fun hlt => ?_) (fun hlt => ?_)
  · have hltb : i < b.length := by omega
    rw [drop_cons hlt, drop_cons hltb] at hinv
    have e1 := List.getElem?_eq_getElem hlt
    have e2 := List.getElem?_eq_getElem hltb
    obtain ⟨x, hx⟩ : ∃ x, x = a[i] := ⟨_, rfl⟩
    obtain ⟨y, hy⟩ : ∃ y, y = b[i] := ⟨_, rfl⟩
    rw [← hx] at hinv e1
    rw [← hy] at hinv e2
    clear hx hy
    obtain ⟨xn, xk, xs, xt⟩ := x
    obtain ⟨yn, yk, ys, yt⟩ := y
    by_cases hxy : xn = yn ∧ xk = yk ∧ xs = ys ∧ xt = yt
    · obtain ⟨rfl, rfl, rfl, rfl⟩ := hxy
      simp -dsimp [h0, h1', h5, e1, e2]
      exact ⟨i + 1, by omega, wrapS (by omega), by omega, by rw [hinv]; simp⟩
    · have hbb : (!decide (xn = yn) || (!xk == yk || (!xs == ys || !xt == yt))) = true := by
        by_cases p : xn = yn
        · by_cases q : xk = yk
          · by_cases r : xs = ys
            · by_cases u : xt = yt
              · exact absurd ⟨p, q, r, u⟩ hxy
              · simp [u]
            · simp [r]
          · simp [q]
        · simp [p]
      simp -dsimp [h0, h1', h5, e1, e2, hbb]
      exact fin0 _ (by rw [hinv]; simp; intro a b c d; exact absurd ⟨a, b, c, d⟩ hxy)
  · have h1 : a.drop i = [] := List.drop_eq_nil_of_le (by omega)
    have h2 : b.drop i = [] := List.drop_eq_nil_of_le (by omega)
    rw [h1, h2] at hinv
    simp -dsimp
    exact fin0 _ hinv.symm
def Fc.eqB (f g : Fc) : Bool := decide (f.name = g.name) && decide (f.params = g.params) && decide (f.vars = g.vars) && smsEq f.body g.body && decide (f.rets = g.rets)
def fcsEq : List Fc → List Fc → Bool
  | [], [] => true
  | x :: a, y :: b => x.eqB y && fcsEq a b
  | _, _ => false
def Pg.eqB (a b : Pg) : Bool := decide (a.regions = b.regions) && fcsEq a.funcs b.funcs
theorem fc_same (f g : Fc) : f.eqB g = true ↔ f = g := by
  unfold Fc.eqB
  simp only [Bool.and_eq_true, decide_eq_true_eq, sms_same]
  cases f
  cases g
  simp only [Fc.mk.injEq]
  constructor
  · rintro ⟨⟨⟨⟨a, b⟩, c⟩, d⟩, e⟩; exact ⟨a, b, c, e, d⟩
  · rintro ⟨a, b, c, e, d⟩; exact ⟨⟨⟨⟨a, b⟩, c⟩, d⟩, e⟩
theorem fcs_same : ∀ a b : List Fc, fcsEq a b = true ↔ a = b
  | [], [] => by simp [fcsEq]
  | [], _ :: _ => by simp [fcsEq]
  | _ :: _, [] => by simp [fcsEq]
  | x :: a, y :: b => by rw [fcsEq, Bool.and_eq_true, fcs_same a b, fc_same, List.cons.injEq]
theorem fcsEq_len {a b : List Fc} (h : fcsEq a b = true) : a.length = b.length := by rw [(fcs_same a b).1 h]
theorem pg_same (a b : Pg) : a.eqB b = true ↔ a = b := by
  unfold Pg.eqB
  rw [Bool.and_eq_true, decide_eq_true_eq, fcs_same]
  cases a
  cases b
  simp only [Pg.mk.injEq]
theorem pg_refl (a : Pg) : a.eqB a = true := (pg_same a a).2 rfl
structure Pg.OkS (p : Pg) : Prop where
  regions : p.regions.length ≤ 2^40
  funcs : p.funcs.length ≤ 2^40
  params : ∀ f ∈ p.funcs, f.params.length ≤ 2^40
  vars : ∀ f ∈ p.funcs, f.vars.length ≤ 2^40
  rets : ∀ f ∈ p.funcs, f.rets.length ≤ 2^40
  body : ∀ f ∈ p.funcs, smsCount f.body ≤ 2^40
def sameT8 : FT := .fork [0, 1, 2, 3, 4, 5, 6, 7, 8, 9]
  (.alt 10 [0, 1, 3, 4, 5, 6, 8, 9] (.lin [(11, [0, 1, 3, 4, 5, 6, 8, 9]), (12, [5, 6, 8, 9]), (13, [])])
  (.alt 11 [0, 1, 3, 4, 5, 6, 8, 9] (.lin [(10, [0, 1, 3, 4, 5, 6, 8, 9]), (12, [5, 6, 8, 9]), (13, [])]) .none))
def SameF (H : List Blk) (x y : Fc) (f6 f7 : AV) (H' : List Blk) : Prop := ∃ u v R, H' = H ++ R ∧ H'[u]? = some (.box 56 x.cells) ∧ H'[v]? = some (.box 56 y.cells) ∧ f6 = .bp u 0 ∧ f7 = .bp v 0
theorem rpg_ok (a b : Pg) (ha : a.OkS) (hb : b.OkS) (H : List Blk) : ACalls Tryz.prog 20 [.agg a.cells, .agg b.cells] H (fun e H' => e = .ret (Bo (a.eqB b)) ∧ H' = H) := by
  refine acalls_tidy (acalls_of_awp Tryz.func20 rfl (by kernel_rfl) ?_)
  have har := ha.regions
  have haf := ha.funcs
  have hbr := hb.regions
  have hbf := hb.funcs
  obtain ⟨E, hE⟩ : ∃ E, E = a.eqB b := ⟨_, rfl⟩
  rw [← hE]
  unfold Pg.eqB at hE
  obtain ⟨bA, hbA⟩ : ∃ bA, bA = Blk.box 25 a.cells := ⟨_, rfl⟩
  obtain ⟨bB, hbB⟩ : ∃ bB, bB = Blk.box 25 b.cells := ⟨_, rfl⟩
  obtain ⟨M, hM⟩ : ∃ M : List Blk → List Blk, M = fun L => H ++ bA :: bB :: L := ⟨_, rfl⟩
  have hMe : ∀ L, M L = H ++ bA :: bB :: L := fun L => by rw [hM]
  have hMa : ∀ L R, M L ++ R = M (L ++ R) := fun L R => by rw [hMe, hMe]; simp
  have hVx : ∀ L, (M L)[H.length]? = some (.box 25 a.cells) := fun L => by rw [hMe, ← hbA]; simp
  have hVy : ∀ L, (M L)[H.length + 1]? = some (.box 25 b.cells) := fun L => by rw [hMe, ← hbB]; simp
  have finV : ∀ b L, b = E → Tidy H (fun e H' => e = .ret (Bo E) ∧ H' = H) (.ret (Bo b)) (M L) := fun b L h => by rw [h, hMe]; exact tidy_same rfl ⟨rfl, rfl⟩
  clear hM
  refine awp_cut (fun _ => false) (fun _ => none) (fun f H' => H' = M [] ∧ f 2 = .bp H.length 0 ∧ f 3 = .bp (H.length + 1) 0) (by kernel_rfl) ?_ ?_
  · rw [hMe, hbA, hbB]
    simp -dsimp
  simp only [Pg.cells] at hVx hVy
  clear hbA hbB hMe
  rintro g _ ⟨rfl, g2, g3⟩
  refine awp_cut (fun _ => false) (fun _ => none) (fun f H' => H' = M [] ∧ f 2 = .bp H.length 0 ∧ f 3 = .bp (H.length + 1) 0 ∧ a.regions.length = b.regions.length ∧ a.funcs.length = b.funcs.length) (by kernel_rfl) ?_ ?_
  · replace hE := Hid.mk hE
    by_cases h1 : a.regions.length = b.regions.length
    rotate_left
    · have hkb : ((a.regions.length : Int) != (b.regions.length : Int)) = true := by simp; omega
      simp -dsimp [g2, g3, hVx, hVy, hkb]
      have hne : ¬ a.regions = b.regions := fun h => h1 (by rw [h])
      exact finV false _ (by rw [hE.out, decide_eq_false hne]; rfl)
    by_cases h2 : a.funcs.length = b.funcs.length
    rotate_left
    · have hkb : ((a.funcs.length : Int) != (b.funcs.length : Int)) = true := by simp; omega
      simp -dsimp [g2, g3, hVx, hVy, h1, hkb]
      have hne : fcsEq a.funcs b.funcs = false := by
        cases hh : fcsEq a.funcs b.funcs
        · rfl
        · exact absurd (fcsEq_len hh) h2
      exact finV false _ (by rw [hE.out, hne, Bool.and_false])
    simp -dsimp [g2, g3, hVx, hVy, h1, h2]
  clear g g2 g3
  rintro g _ ⟨rfl, g2, g3, hl1, hl2⟩
  -- regions
  refine awp_cutA (fun f H' => H' = M [] ∧ f 2 = .bp H.length 0 ∧ f 3 = .bp (H.length + 1) 0 ∧ fcsEq a.funcs b.funcs = E) ?_ ?_
  · refine awp_all (fun _ => false) (fun _ => none) (by kernel_rfl) ?_
    obtain ⟨K, hK⟩ : ∃ K, K = fcsEq a.funcs b.funcs := ⟨_, rfl⟩
    rw [← hK] at hE ⊢
    clear hK
    simp -dsimp [g2, g3]
    refine loop_rule (hn := fun _ => false) (od := fun _ => none) (fun (i : Nat) f H' => H' = M [] ∧ f 2 = .bp H.length 0 ∧ f 3 = .bp (H.length + 1) 0 ∧ f 5 = I i ∧ i ≤ a.regions.length ∧ E = (decide (a.regions.drop i = b.regions.drop i) && K)) (fun i => a.regions.length - i) (by kernel_rfl) 0 (by simp [g2, g3]; exact hE) ?_
    clear g g2 g3 hE
    rintro i g _ ⟨rfl, g2, g3, g5, hi, hinv⟩
    simp -dsimp [g2, g3, g5, hVx]
    refine condVW_introD (fun hlt => ?_) (fun hlt => ?_)
    · have hltb : i < b.regions.length := by omega
      rw [drop_cons hlt, drop_cons hltb] at hinv
      have e1 := List.getElem?_eq_getElem hlt
      have e2 := List.getElem?_eq_getElem hltb
      obtain ⟨x, hx⟩ : ∃ x, x = a.regions[i] := ⟨_, rfl⟩
      obtain ⟨y, hy⟩ : ∃ y, y = b.regions[i] := ⟨_, rfl⟩
      rw [← hx] at hinv e1
      rw [← hy] at hinv e2
      clear hx hy
      obtain ⟨xn, xk, xs, xt⟩ := x
      obtain ⟨yn, yk, ys, yt⟩ := y
      by_cases hxy : xn = yn ∧ xk = yk ∧ xs = ys ∧ xt = yt
      · obtain ⟨rfl, rfl, rfl, rfl⟩ := hxy
        simp -dsimp [g2, g3, g5, hVx, hVy, e1, e2]
        exact ⟨i + 1, by omega, wrapS (by omega), by omega, by rw [hinv]; simp⟩
      · have hbb : (!decide (xn = yn) || (!xk == yk || (!xs == ys || !xt == yt))) = true := by
          by_cases p : xn = yn
          · by_cases q : xk = yk
            · by_cases r : xs = ys
              · by_cases u : xt = yt
                · exact absurd ⟨p, q, r, u⟩ hxy
                · simp [u]
              · simp [r]
            · simp [q]
          · simp [p]
        simp -dsimp [g2, g3, g5, hVx, hVy, e1, e2, hbb]
        exact finV false [] (by rw [hinv, decide_eq_false]; rfl; simp; intro a b c d; exact absurd ⟨a, b, c, d⟩ hxy)
    · have h1 : a.regions.drop i = [] := List.drop_eq_nil_of_le (by omega)
      have h2 : b.regions.drop i = [] := List.drop_eq_nil_of_le (by omega)
      rw [h1, h2] at hinv
      simp -dsimp [g2, g3]
      simpa using hinv.symm
  clear g g2 g3 hE
  rintro g _ ⟨rfl, g2, g3, hinv0⟩
  -- functions
  refine awp_cutA (fun f H' => (∃ L, H' = M L) ∧ E = true) ?_ ?_
  rotate_left
  · clear g g2 g3
    rintro g _ ⟨⟨L, rfl⟩, h⟩
    refine awp_all (fun _ => false) (fun _ => none) (by kernel_rfl) ?_
    simp -dsimp
    exact finV _ _ h.symm
  refine awp_cut (fun _ => false) (fun _ => none) (fun f H' => H' = M [] ∧ f 2 = .bp H.length 0 ∧ f 3 = .bp (H.length + 1) 0 ∧ f 6 = I 0) (by kernel_rfl) ?_ ?_
  · simp -dsimp [g2, g3]
  clear g g2 g3
  rintro g _ ⟨rfl, g2, g3, g6⟩
  refine awp_block ?_
  refine awp_loopI (fun (i : Nat) f H' => (∃ L, H' = M L) ∧ f 2 = .bp H.length 0 ∧ f 3 = .bp (H.length + 1) 0 ∧ f 6 = I i ∧ i ≤ a.funcs.length ∧ fcsEq (a.funcs.drop i) (b.funcs.drop i) = E) (fun i => a.funcs.length - i) 0 ⟨⟨[], rfl⟩, g2, g3, g6, by omega, by simpa using hinv0⟩ ?_
  clear g g2 g3 g6 hinv0
  rintro i g _ ⟨⟨L, rfl⟩, g2, g3, g6, hi, hinv⟩
  refine awp_cut (fun _ => false) (fun _ => none) (fun f H' => H' = M L ∧ f 2 = .bp H.length 0 ∧ f 3 = .bp (H.length + 1) 0 ∧ f 6 = I i ∧ i < a.funcs.length) (by kernel_rfl) ?_ ?_
  · simp -dsimp [g2, g3, g6, hVx]
    refine condVW_introD (fun hlt => ?_) (fun hlt => ?_)
    · simp -dsimp [g2, g3, g6]
      omega
    · have h1 : a.funcs.drop i = [] := List.drop_eq_nil_of_le (by omega)
      have h2 : b.funcs.drop i = [] := List.drop_eq_nil_of_le (by omega)
      rw [h1, h2, fcsEq] at hinv
      simp -dsimp
      exact ⟨⟨L, rfl⟩, hinv.symm⟩
  clear g g2 g3 g6
  rintro g _ ⟨rfl, g2, g3, g6, hlt⟩
  have hltb : i < b.funcs.length := by omega
  rw [drop_cons hlt, drop_cons hltb, fcsEq] at hinv
  have e1 := List.getElem?_eq_getElem hlt
  have e2 := List.getElem?_eq_getElem hltb
  have hmx := List.getElem_mem hlt
  have hmy := List.getElem_mem hltb
  obtain ⟨x, hx⟩ : ∃ x, x = a.funcs[i] := ⟨_, rfl⟩
  obtain ⟨y, hy⟩ : ∃ y, y = b.funcs[i] := ⟨_, rfl⟩
  rw [← hx] at hinv e1 hmx
  rw [← hy] at hinv e2 hmy
  clear hx hy
  have p1 := ha.params x hmx
  have p2 := ha.vars x hmx
  have p3 := ha.rets x hmx
  have p4 := ha.body x hmx
  have q1 := hb.params y hmy
  have q2 := hb.vars y hmy
  have q3 := hb.rets y hmy
  have q4 := hb.body y hmy
  unfold Fc.eqB at hinv
  refine awp_cutA (fun f H' => (∃ L, H' = M L) ∧ f 2 = .bp H.length 0 ∧ f 3 = .bp (H.length + 1) 0 ∧ f 6 = I i ∧ fcsEq (a.funcs.drop (i + 1)) (b.funcs.drop (i + 1)) = E) ?_ ?_
  rotate_left
  · clear g g2 g3 g6
    rintro g _ ⟨⟨L, rfl⟩, g2, g3, g6, hinv⟩
    refine awp_all (fun _ => false) (fun _ => none) (by kernel_rfl) ?_
    simp -dsimp [g2, g3, g6]
    exact ⟨i + 1, by omega, ⟨L, rfl⟩, wrapS (by omega), by omega, hinv⟩
  refine awp_block ?_
  obtain ⟨K, hK⟩ : ∃ K, K = fcsEq (a.funcs.drop (i + 1)) (b.funcs.drop (i + 1)) := ⟨_, rfl⟩
  rw [← hK] at hinv ⊢
  obtain ⟨V, hV⟩ : ∃ V, V = M L := ⟨_, rfl⟩
  have hVx' := hVx L
  have hVy' := hVy L
  rw [← hV] at hVx' hVy' ⊢
  have hWx : ∀ R, (V ++ R)[H.length]? = some (.box 25 [Rg.sl a.regions, Fc.sl a.funcs]) := fun R => get_app_old hVx' R
  have hWy : ∀ R, (V ++ R)[H.length + 1]? = some (.box 25 [Rg.sl b.regions, Fc.sl b.funcs]) := fun R => get_app_old hVy' R
  have hVR : ∀ R, V ++ R = M (L ++ R) := fun R => by rw [hV, hMa]
  clear hV
  refine awp_cutA (fun f H' => SameF V x y (f 7) (f 8) H' ∧ f 2 = .bp H.length 0 ∧ f 3 = .bp (H.length + 1) 0 ∧ f 6 = I i) ?_ ?_
  · refine awp_region_tree (fun d => false) sameT8 (by kernel_rfl) ?_
    have fin2 : ∀ u v R X' Y', (V ++ R)[u]? = some (Blk.box 56 X') → (V ++ R)[v]? = some (Blk.box 56 Y') → X' = x.cells → Y' = y.cells → SameF V x y (.bp u 0) (.bp v 0) (V ++ R) := fun u v R X' Y' p q h1 h2 => by
      subst h1 h2
      exact ⟨u, v, _, rfl, p, q, rfl, rfl⟩
    simp -dsimp [sameT8, g2, g3, g6, hVx', hVy', hWx, hWy, e1, e2]
    refine ⟨fin2 _ _ _ _ _ ?_ ?_ rfl rfl, fin2 _ _ _ _ _ ?_ ?_ rfl rfl⟩
    · rw [List.getElem?_append_right (Nat.le_refl _), Nat.sub_self]; rfl
    · rw [List.getElem?_append_right (by omega), Nat.add_sub_cancel_left]; rfl
    · rw [List.getElem?_append_right (by omega), Nat.add_sub_cancel_left]; rfl
    · rw [List.getElem?_append_right (Nat.le_refl _), Nat.sub_self]; rfl
  clear g g2 g3 g6
  rintro g W ⟨⟨u, v, R, hW, hWu, hWv, g7, g8⟩, g2, g3, g6⟩
  rw [hVR] at hW
  have finW : ∀ b, b = E → Tidy H (fun e H' => e = .ret (Bo E) ∧ H' = H) (.ret (Bo b)) W := fun b h => by rw [hW]; exact finV _ _ h
  have hWH : ∃ L', W = M L' := ⟨_, hW⟩
  clear hW hVR hWx hWy
  simp only [Fc.cells] at hWu hWv
  have c1 := rsvars_ok x.params y.params (by omega) (by omega) W
  have c2 := rsvars_ok x.vars y.vars (by omega) (by omega) W
  have c3 := rsms_ok _ x.body y.body (Nat.lt_succ_self _) (by omega) (by omega) W
  refine awp_cut (fun _ => false) (fun _ => none) (fun f H' => W = H' ∧ f 2 = .bp H.length 0 ∧ f 3 = .bp (H.length + 1) 0 ∧ f 6 = I i ∧ f 7 = .bp u 0 ∧ f 8 = .bp v 0 ∧ (decide (x.rets = y.rets) && K) = E ∧ x.rets.length = y.rets.length) (by kernel_rfl) ?_ ?_
  · replace hinv := Hid.mk hinv
    by_cases h1 : x.name = y.name
    rotate_left
    · simp -dsimp [g2, g3, g6, g7, g8, hWu, hWv, h1]
      exact finW false (by rw [← hinv.out, decide_eq_false h1]; simp)
    simp -dsimp [g2, g3, g6, g7, g8, hWu, hWv, h1]
    refine acallsW_det c1 ?_
    by_cases h2 : x.params = y.params
    rotate_left
    · rw [decide_eq_false h2]
      simp -dsimp
      exact finW false (by rw [← hinv.out, decide_eq_false h2]; simp)
    rw [decide_eq_true h2]
    simp -dsimp [g2, g3, g6, g7, g8, hWu, hWv, h1]
    refine acallsW_det c2 ?_
    by_cases h3 : x.vars = y.vars
    rotate_left
    · rw [decide_eq_false h3]
      simp -dsimp
      exact finW false (by rw [← hinv.out, decide_eq_false h3]; simp)
    rw [decide_eq_true h3]
    by_cases h4 : x.rets.length = y.rets.length
    rotate_left
    · have hkb : ((x.rets.length : Int) != (y.rets.length : Int)) = true := by simp; omega
      have hne : ¬ x.rets = y.rets := fun h => h4 (by rw [h])
      simp -dsimp [g2, g3, g6, g7, g8, hWu, hWv, h1, hkb]
      exact finW false (by rw [← hinv.out, decide_eq_false hne]; simp)
    simp -dsimp [g2, g3, g6, g7, g8, hWu, hWv, h1, h4]
    refine acallsW_det c3 ?_
    cases h5 : smsEq x.body y.body
    · simp -dsimp
      exact finW false (by rw [← hinv.out, h5]; simp)
    simp -dsimp [g2, g3, g6, g7, g8, hWu, hWv, h1, h4]
    rw [← hinv.out, h5, decide_eq_true h1, decide_eq_true h2, decide_eq_true h3]
    rfl
  clear g g2 g3 g6 g7 g8 hinv
  rintro g _ ⟨rfl, g2, g3, g6, g7, g8, hinv, hlr⟩
  refine awp_all (fun _ => false) (fun _ => none) (by kernel_rfl) ?_
  simp -dsimp [g2, g3, g6, g7, g8]
  refine loop_rule (hn := fun _ => false) (od := fun _ => none) (fun (j : Nat) f H' => W = H' ∧ f 2 = .bp H.length 0 ∧ f 3 = .bp (H.length + 1) 0 ∧ f 6 = I i ∧ f 7 = .bp u 0 ∧ f 8 = .bp v 0 ∧ f 9 = I j ∧ j ≤ x.rets.length ∧ (decide (x.rets.drop j = y.rets.drop j) && K) = E) (fun j => x.rets.length - j) (by kernel_rfl) 0 (by
    simp [g2, g3, g6, g7, g8]
    simpa using hinv) ?_
  clear g g2 g3 g6 g7 g8 hinv
  rintro j g _ ⟨rfl, g2, g3, g6, g7, g8, g9, hj, hinv⟩
  simp -dsimp [g2, g3, g6, g7, g8, g9, hWu]
  refine condVW_introD (fun hjt => ?_) (fun hjt => ?_)
  · have hjt2 : j < y.rets.length := by omega
    rw [drop_cons hjt, drop_cons hjt2] at hinv
    have e3 := List.getElem?_eq_getElem hjt
    have e4 := List.getElem?_eq_getElem hjt2
    obtain ⟨w, hw⟩ : ∃ w, w = x.rets[j] := ⟨_, rfl⟩
    obtain ⟨z, hz⟩ : ∃ z, z = y.rets[j] := ⟨_, rfl⟩
    rw [← hw] at hinv e3
    rw [← hz] at hinv e4
    clear hw hz
    by_cases hwz : w = z
    · subst hwz
      simp -dsimp [g2, g3, g6, g7, g8, g9, hWu, hWv, e3, e4]
      exact ⟨j + 1, by omega, wrapS (by omega), by omega, by simpa using hinv⟩
    · simp -dsimp [g2, g3, g6, g7, g8, g9, hWu, hWv, e3, e4, hwz]
      exact finW false (by rw [← hinv, decide_eq_false (by simp [hwz])]; rfl)
  · have h1 : x.rets.drop j = [] := List.drop_eq_nil_of_le (by omega)
    have h2 : y.rets.drop j = [] := List.drop_eq_nil_of_le (by omega)
    rw [h1, h2] at hinv
    simp -dsimp [g2, g3, g6]
    exact ⟨hWH, by simpa using hinv⟩
end Go.Proofs
namespace Go.Proofs
open Go.Mu
theorem tidy_ownR {H : List Blk} {R : AE → List Blk → Prop} (hu : underH H.length H = true) (sz : Nat) (t : TypeId) (es : List (List AV)) (L : List Blk) (hz : es.flatten.all AV.frzB = true) (h : R (.ret (.vs sz es)) H) : WeakE (Tidy H R) (.ret (ownS H.length es)) (H ++ ownB t sz es :: L) := by
  by_cases hw : es = []
  · subst hw
    rw [ownS_nil]
    refine tidy_weak (.nil sz) ?_
    exact tidy_same rfl h
  · refine tidy_weak (.refl _) ?_
    rw [ownB, if_neg hw]
    refine tidy_give1 hu sz _ _ hz ?_ ?_
    · rw [frz_own _ _ _ hw]; rfl
    · rw [frz_own _ _ _ hw]; exact h
theorem map_frzB {α : Type} (cells : α → List AV) (h : ∀ a, (cells a).all AV.frzB = true) (l : List α) : (l.map cells).flatten.all AV.frzB = true := by
  rw [List.all_eq_true]
  intro c hc
  obtain ⟨e, he, hce⟩ := List.mem_flatten.1 hc
  obtain ⟨x, _, rfl⟩ := List.mem_map.1 he
  exact List.all_eq_true.1 (h x) c hce
theorem exs_frzB (l : List Ex) : (l.map Ex.cells).flatten.all AV.frzB = true := map_frzB _ (fun x => by simp [AV.frzB]) l
theorem sms_frzB (l : List Sm) : (l.map Sm.cells).flatten.all AV.frzB = true := map_frzB _ (fun x => by simp [AV.frzB]) l
theorem fcs_frzB (l : List Fc) : (l.map Fc.cells).flatten.all AV.frzB = true := map_frzB _ (fun x => by simp [AV.frzB]) l
theorem vrs_frzB (l : List Vr) : (l.map Vr.cells).flatten.all AV.frzB = true := map_frzB _ (fun x => by simp [AV.frzB]) l
theorem rgs_frzB (l : List Rg) : (l.map Rg.cells).flatten.all AV.frzB = true := map_frzB _ (fun x => by simp [AV.frzB]) l
theorem strs_frzB (l : List ByteArray) : (l.map fun s => [St s]).flatten.all AV.frzB = true := map_frzB _ (fun x => by simp [AV.frzB]) l
theorem take_succV {α : Type} {l : List α} {i : Nat} (h : i < l.length) : l.take (i + 1) = l.take i ++ [l[i]] := List.take_succ_eq_append_getElem h
def RowM (t sz : Nat) (H : List Blk) (es : List (List AV)) (x : AV) (H' : List Blk) : Prop := ∃ L, H' = H ++ ownB t sz es :: L ∧ x = ownS H.length es
theorem cloneExprs_ok (m : Nat) : ∀ (l : List Ex), exsCount l < m → exsCount l ≤ 2^40 → ∀ (H : List Blk), ACalls Tryz.prog 112 [Ex.sl l] H (fun e H' => e = .ret (Ex.sl l) ∧ H' = H) := by
  induction m with
  | zero => intro l h; omega
  | succ m ih =>
    intro l hm hc H
    refine acalls_under fun hu _ => acalls_tidy (acalls_weakE (acalls_spare 1 (acalls_of_awp Tryz.func112 rfl (by kernel_rfl) ?_)))
    have hlen := exs_len l
    have hrg : ∀ X L, (H ++ X :: L)[H.length]? = some X := fun X L => by simp
    have hrs : ∀ X Y L, (H ++ X :: L).set H.length Y = H ++ Y :: L := fun X Y L => by simp
    refine awp_cut (fun _ => false) (fun _ => none) (fun f H' => H' = H ++ [Blk.pend] ∧ f 0 = Ex.sl l) (by kernel_rfl) ?_ ?_
    · simp -dsimp
    rintro g _ ⟨rfl, g0⟩
    refine awp_cut (fun _ => false) (fun _ => none) (fun f H' => H' = H ++ [Blk.pend] ∧ f 0 = Ex.sl l ∧ f 3 = nilS) (by kernel_rfl) ?_ ?_
    · simp -dsimp [g0]
    clear g g0
    rintro g _ ⟨rfl, g0, g3⟩
    refine awp_cutA (fun f H' => RowM 73 4 H (l.map Ex.cells) (f 3) H') ?_ ?_
    rotate_left
    · clear g g0 g3
      rintro g _ ⟨L, rfl, g3⟩
      refine awp_all (fun _ => false) (fun _ => none) (by kernel_rfl) ?_
      simp -dsimp [g3]
      exact tidy_ownR hu 4 73 _ L (exs_frzB l) ⟨rfl, rfl⟩
    refine awp_cut (fun _ => false) (fun _ => none) (fun f H' => H' = H ++ [Blk.pend] ∧ f 6 = Ex.sl l ∧ f 3 = nilS ∧ f 7 = I l.length ∧ f 8 = I 0) (by kernel_rfl) ?_ ?_
    · simp -dsimp [g0, g3]
    clear g g0 g3
    rintro g _ ⟨rfl, g6, g3, g7, g8⟩
    refine awp_block ?_
    refine awp_loopI (fun (i : Nat) f H' => RowM 73 4 H ((l.map Ex.cells).take i) (f 3) H' ∧ f 6 = Ex.sl l ∧ f 7 = I l.length ∧ f 8 = I i ∧ i ≤ l.length) (fun i => l.length - i) 0
      ⟨⟨[], by simp [ownB], by rw [g3]; exact (ownS_nil _).symm⟩, g6, g7, g8, by omega⟩ ?_
    clear g g6 g3 g7 g8
    rintro i g _ ⟨⟨L, rfl, g3⟩, g6, g7, g8, hi⟩
    obtain ⟨out, hout⟩ : ∃ out, out = (l.map Ex.cells).take i := ⟨_, rfl⟩
    have hol : out.length = i := by rw [hout]; simp; omega
    rw [← hout] at g3 ⊢
    refine awp_cut (fun _ => false) (fun _ => none) (fun f H' => H' = H ++ ownB 73 4 out :: L ∧ f 6 = Ex.sl l ∧ f 7 = I l.length ∧ f 8 = I i ∧ f 3 = ownS H.length out ∧ f 9 = Bo (decide ((i : Int) < l.length))) (by kernel_rfl) ?_ ?_
    · simp -dsimp [g6, g7, g8, g3]
    clear g g6 g7 g8 g3
    rintro g _ ⟨rfl, g6, g7, g8, g3, g9⟩
    refine awp_cut (fun _ => false) (fun _ => none) (fun f H' => H' = H ++ ownB 73 4 out :: L ∧ f 6 = Ex.sl l ∧ f 7 = I l.length ∧ f 8 = I i ∧ f 3 = ownS H.length out ∧ i < l.length) (by kernel_rfl) ?_ ?_
    · simp -dsimp [g9]
      refine condVW_introD (fun hlt => ?_) (fun hlt => ?_)
      · simp -dsimp [g6, g7, g8, g3]
        omega
      · have : out = l.map Ex.cells := by rw [hout]; exact List.take_of_length_le (by simp; omega)
        simp -dsimp [g3]
        exact ⟨L, by rw [this], by rw [this]⟩
    clear g g6 g7 g8 g3 g9
    rintro g _ ⟨rfl, g6, g7, g8, g3, hlt⟩
    have hgx := exs_get hlt
    have hcx := Ex.count_eq l[i]
    have hlx : l[i]? = some l[i] := List.getElem?_eq_getElem hlt
    have htk : (l.map Ex.cells).take (i + 1) = out ++ [l[i].cells] := by rw [take_succV (by simpa using hlt), List.getElem_map, hout]
    obtain ⟨x, hx⟩ : ∃ x, x = l[i] := ⟨_, rfl⟩
    rw [← hx] at hgx hcx hlx htk
    clear hx hout
    have cr := fun H => ih x.args (by omega) (by omega) H
    simp only [Ex.cells_eq] at htk
    refine awp_cutA (fun f H' => RowM 73 4 H ((l.map Ex.cells).take (i + 1)) (f 3) H' ∧ f 6 = Ex.sl l ∧ f 7 = I l.length ∧ f 8 = I i) ?_ ?_
    rotate_left
    · clear g g6 g7 g8 g3
      rintro g H' ⟨ho, g6, g7, g8⟩
      replace ho := Hid.mk ho
      refine awp_all (fun _ => false) (fun _ => none) (by kernel_rfl) ?_
      simp -dsimp [g6, g7, g8]
      exact ⟨i + 1, by omega, ho.out, wrapS (by omega), by omega⟩
    refine awp_block ?_
    rw [htk]
    refine awp_all (fun d => d == 19) (fun _ => none) (by kernel_rfl) ?_
    simp -dsimp [g6, g7, g8, g3, hlx]
    refine acallsW_det (cr _) ?_
    simp -dsimp [g6, g7, g8, g3, hlx]
    refine appendVW_own (k := H.length) (es := out) (by rw [hrg]) (by simp; omega) (by simp; omega) ?_
    rw [hrs]
    simp -dsimp [g6, g7, g8, g3, hlx]
    exact ⟨_, rfl, rfl⟩
end Go.Proofs
namespace Go.Proofs
open Go.Mu
theorem cloneV_ok (l : List Vr) (hl : l.length ≤ 2^40) (H : List Blk) : ACalls Tryz.prog 68 [Vr.sl l] H (fun e H' => e = .ret (Vr.sl l) ∧ H' = H) := by
  refine acalls_under fun hu _ => acalls_tidy (acalls_weakE (acalls_of_vc (hn := fun d => d == 5 || d == 7) (od := fun _ => none) Tryz.func68 rfl (by kernel_rfl) ?_))
  have fin : ∀ L, WeakE (Tidy H fun e H' => e = AE.ret (Vr.sl l) ∧ H' = H) (.ret (.hs H.length 0 l.length l.length)) (H ++ .row 120 4 (l.map Vr.cells) :: L) := fun L => by
    refine tidy_weak (.refl _) ?_
    refine tidy_give1 hu 4 _ _ (vrs_frzB l) ?_ ?_
    · simp [AV.frz, AV.under]
    · have : (AV.hs H.length 0 l.length l.length).frz H.length 4 (l.map Vr.cells) = Vr.sl l := by
        simp [AV.frz]
        exact List.take_of_length_le (by simp)
      rw [this]
      exact ⟨rfl, rfl⟩
  simp -dsimp
  refine slNilW_vs (fun hne => ?_) (fun he => ⟨?_, ?_⟩)
  · simp -dsimp
    refine appendVW_hs (es := []) (by simp) rfl rfl (by simp; omega) (by simp; omega) ?_
    simp -dsimp
    simpa using fin []
  · have : l = [] := by simpa using he
    simp -dsimp
    subst this
    refine tidy_weak (.nil 4) ?_
    exact tidy_now rfl ⟨rfl, rfl⟩
  · simp -dsimp
    refine appendVW_hs (es := []) (by simp) rfl rfl (by simp; omega) (by simp; omega) ?_
    simp -dsimp
    simpa using fin []
theorem cloneR_ok (l : List Rg) (hl : l.length ≤ 2^40) (H : List Blk) : ACalls Tryz.prog 67 [Rg.sl l] H (fun e H' => e = .ret (Rg.sl l) ∧ H' = H) := by
  refine acalls_under fun hu _ => acalls_tidy (acalls_weakE (acalls_of_vc (hn := fun d => d == 5 || d == 7) (od := fun _ => none) Tryz.func67 rfl (by kernel_rfl) ?_))
  have fin : ∀ L, WeakE (Tidy H fun e H' => e = AE.ret (Rg.sl l) ∧ H' = H) (.ret (.hs H.length 0 l.length l.length)) (H ++ .row 96 4 (l.map Rg.cells) :: L) := fun L => by
    refine tidy_weak (.refl _) ?_
    refine tidy_give1 hu 4 _ _ (rgs_frzB l) ?_ ?_
    · simp [AV.frz, AV.under]
    · have : (AV.hs H.length 0 l.length l.length).frz H.length 4 (l.map Rg.cells) = Rg.sl l := by
        simp [AV.frz]
        exact List.take_of_length_le (by simp)
      rw [this]
      exact ⟨rfl, rfl⟩
  simp -dsimp
  refine slNilW_vs (fun hne => ?_) (fun he => ⟨?_, ?_⟩)
  · simp -dsimp
    refine appendVW_hs (es := []) (by simp) rfl rfl (by simp; omega) (by simp; omega) ?_
    simp -dsimp
    simpa using fin []
  · have : l = [] := by simpa using he
    simp -dsimp
    subst this
    refine tidy_weak (.nil 4) ?_
    exact tidy_now rfl ⟨rfl, rfl⟩
  · simp -dsimp
    refine appendVW_hs (es := []) (by simp) rfl rfl (by simp; omega) (by simp; omega) ?_
    simp -dsimp
    simpa using fin []
theorem cloneS_ok (l : List ByteArray) (hl : l.length ≤ 2^40) (H : List Blk) : ACalls Tryz.prog 69 [St.sl l] H (fun e H' => e = .ret (St.sl l) ∧ H' = H) := by
  refine acalls_under fun hu _ => acalls_tidy (acalls_weakE (acalls_of_vc (hn := fun d => d == 5 || d == 7) (od := fun _ => none) Tryz.func69 rfl (by kernel_rfl) ?_))
  have fin : ∀ L, WeakE (Tidy H fun e H' => e = AE.ret (St.sl l) ∧ H' = H) (.ret (.hs H.length 0 l.length l.length)) (H ++ .row 9 1 (l.map (fun s => [St s])) :: L) := fun L => by
    refine tidy_weak (.refl _) ?_
    refine tidy_give1 hu 1 _ _ (strs_frzB l) ?_ ?_
    · simp [AV.frz, AV.under]
    · have : (AV.hs H.length 0 l.length l.length).frz H.length 1 (l.map (fun s => [St s])) = St.sl l := by
        simp [AV.frz]
        exact List.take_of_length_le (by simp)
      rw [this]
      exact ⟨rfl, rfl⟩
  simp -dsimp
  refine slNilW_vs (fun hne => ?_) (fun he => ⟨?_, ?_⟩)
  · simp -dsimp
    refine appendVW_hs (es := []) (by simp) rfl rfl (by simp; omega) (by simp; omega) ?_
    simp -dsimp
    simpa using fin []
  · have : l = [] := by simpa using he
    simp -dsimp
    subst this
    refine tidy_weak (.nil 1) ?_
    exact tidy_now rfl ⟨rfl, rfl⟩
  · simp -dsimp
    refine appendVW_hs (es := []) (by simp) rfl rfl (by simp; omega) (by simp; omega) ?_
    simp -dsimp
    simpa using fin []
end Go.Proofs
namespace Go.Proofs
open Go.Mu
theorem cloneStmts_ok (m : Nat) : ∀ (l : List Sm), smsCount l < m → smsCount l ≤ 2^36 → ∀ (H : List Blk), ACalls Tryz.prog 70 [Sm.sl l] H (fun e H' => e = .ret (Sm.sl l) ∧ H' = H) := by
  induction m with
  | zero => intro l h; omega
  | succ m ih =>
    intro l hm hc H
    refine acalls_under fun hu _ => acalls_tidy (acalls_weakE (acalls_spare 1 (acalls_of_awp Tryz.func70 rfl (by kernel_rfl) ?_)))
    have hlen := sms_len l
    have hrg : ∀ X L, (H ++ X :: L)[H.length]? = some X := fun X L => by simp
    have hrs : ∀ X Y L, (H ++ X :: L).set H.length Y = H ++ Y :: L := fun X Y L => by simp
    refine awp_cut (fun _ => false) (fun _ => none) (fun f H' => H' = H ++ [Blk.pend] ∧ f 0 = Sm.sl l) (by kernel_rfl) ?_ ?_
    · simp -dsimp
    rintro g _ ⟨rfl, g0⟩
    refine awp_cut (fun _ => false) (fun _ => none) (fun f H' => H' = H ++ [Blk.pend] ∧ f 0 = Sm.sl l ∧ f 3 = nilS) (by kernel_rfl) ?_ ?_
    · simp -dsimp [g0]
    clear g g0
    rintro g _ ⟨rfl, g0, g3⟩
    refine awp_cutA (fun f H' => RowM 82 16 H (l.map Sm.cells) (f 3) H') ?_ ?_
    rotate_left
    · clear g g0 g3
      rintro g _ ⟨L, rfl, g3⟩
      refine awp_all (fun _ => false) (fun _ => none) (by kernel_rfl) ?_
      simp -dsimp [g3]
      exact tidy_ownR hu 16 82 _ L (sms_frzB l) ⟨rfl, rfl⟩
    refine awp_cut (fun _ => false) (fun _ => none) (fun f H' => H' = H ++ [Blk.pend] ∧ f 6 = Sm.sl l ∧ f 3 = nilS ∧ f 7 = I l.length ∧ f 8 = I 0) (by kernel_rfl) ?_ ?_
    · simp -dsimp [g0, g3]
    clear g g0 g3
    rintro g _ ⟨rfl, g6, g3, g7, g8⟩
    refine awp_block ?_
    refine awp_loopI (fun (i : Nat) f H' => RowM 82 16 H ((l.map Sm.cells).take i) (f 3) H' ∧ f 6 = Sm.sl l ∧ f 7 = I l.length ∧ f 8 = I i ∧ i ≤ l.length) (fun i => l.length - i) 0
      ⟨⟨[], by simp [ownB], by rw [g3]; exact (ownS_nil _).symm⟩, g6, g7, g8, by omega⟩ ?_
    clear g g6 g3 g7 g8
    rintro i g _ ⟨⟨L, rfl, g3⟩, g6, g7, g8, hi⟩
    obtain ⟨out, hout⟩ : ∃ out, out = (l.map Sm.cells).take i := ⟨_, rfl⟩
    have hol : out.length = i := by rw [hout]; simp; omega
    rw [← hout] at g3 ⊢
    refine awp_cut (fun _ => false) (fun _ => none) (fun f H' => H' = H ++ ownB 82 16 out :: L ∧ f 6 = Sm.sl l ∧ f 7 = I l.length ∧ f 8 = I i ∧ f 3 = ownS H.length out ∧ f 9 = Bo (decide ((i : Int) < l.length))) (by kernel_rfl) ?_ ?_
    · simp -dsimp [g6, g7, g8, g3]
    clear g g6 g7 g8 g3
    rintro g _ ⟨rfl, g6, g7, g8, g3, g9⟩
    refine awp_cut (fun _ => false) (fun _ => none) (fun f H' => H' = H ++ ownB 82 16 out :: L ∧ f 6 = Sm.sl l ∧ f 7 = I l.length ∧ f 8 = I i ∧ f 3 = ownS H.length out ∧ i < l.length) (by kernel_rfl) ?_ ?_
    · simp -dsimp [g9]
      refine condVW_introD (fun hlt => ?_) (fun hlt => ?_)
      · simp -dsimp [g6, g7, g8, g3]
        omega
      · have : out = l.map Sm.cells := by rw [hout]; exact List.take_of_length_le (by simp; omega)
        simp -dsimp [g3]
        exact ⟨L, by rw [this], by rw [this]⟩
    clear g g6 g7 g8 g3 g9
    rintro g _ ⟨rfl, g6, g7, g8, g3, hlt⟩
    have hgx := sms_get hlt
    have hcx := Sm.count_eq l[i]
    have hlx : l[i]? = some l[i] := List.getElem?_eq_getElem hlt
    have htk : (l.map Sm.cells).take (i + 1) = out ++ [l[i].cells] := by rw [take_succV (by simpa using hlt), List.getElem_map, hout]
    obtain ⟨x, hx⟩ : ∃ x, x = l[i] := ⟨_, rfl⟩
    rw [← hx] at hgx hcx hlx htk
    clear hx hout
    have hxa := exs_len x.args
    have c1 := fun H => cloneS_ok x.names (by omega) H
    have c2 := fun H => cloneExprs_ok _ x.e.args (Nat.lt_succ_self _) (by have := Ex.count_eq x.e; omega) H
    have c3 := fun H => cloneExprs_ok _ x.a.args (Nat.lt_succ_self _) (by have := Ex.count_eq x.a; omega) H
    have c4 := fun H => cloneExprs_ok _ x.args (Nat.lt_succ_self _) (by omega) H
    have c5 := fun H => ih x.body (by omega) (by omega) H
    have c6 := fun H => ih x.els (by omega) (by omega) H
    simp only [Sm.cells_eq] at htk
    refine awp_cutA (fun f H' => RowM 82 16 H ((l.map Sm.cells).take (i + 1)) (f 3) H' ∧ f 6 = Sm.sl l ∧ f 7 = I l.length ∧ f 8 = I i) ?_ ?_
    rotate_left
    · clear g g6 g7 g8 g3
      rintro g H' ⟨ho, g6, g7, g8⟩
      replace ho := Hid.mk ho
      refine awp_all (fun _ => false) (fun _ => none) (by kernel_rfl) ?_
      simp -dsimp [g6, g7, g8]
      exact ⟨i + 1, by omega, ho.out, wrapS (by omega), by omega⟩
    refine awp_block ?_
    rw [htk]
    obtain ⟨bX, hbX⟩ : ∃ bX, bX = Blk.box 82 x.cells := ⟨_, rfl⟩
    simp only [Sm.cells_eq] at hbX
    obtain ⟨V, hV⟩ : ∃ V, V = H ++ ownB 82 16 out :: (L ++ [bX]) := ⟨_, rfl⟩
    obtain ⟨u, hu2⟩ : ∃ u, u = H.length + (L.length + 1) := ⟨_, rfl⟩
    have hVu : V[u]? = some (.box 82 [I x.kind, St x.name, St.sl x.names, I x.e.op, U x.e.word, St x.e.name, Ex.sl x.e.args, I x.a.op, U x.a.word, St x.a.name, Ex.sl x.a.args, Ex.sl x.args, U x.low, U x.high, Sm.sl x.body, Sm.sl x.els]) := by
      rw [hV, hu2, List.getElem?_append_right (by omega), Nat.add_sub_cancel_left, List.getElem?_cons_succ, List.getElem?_append_right (Nat.le_refl _), Nat.sub_self, hbX]; rfl
    have hVs := set_same hVu
    refine awp_cut (fun _ => false) (fun _ => none) (fun f H' => V = H' ∧ f 6 = Sm.sl l ∧ f 7 = I l.length ∧ f 8 = I i ∧ f 3 = ownS H.length out ∧ f 5 = .bp u 0) (by kernel_rfl) ?_ ?_
    · simp -dsimp [g6, g7, g8, g3, hlx, hV, hbX, hu2]
    clear g g6 g7 g8 g3
    rintro g _ ⟨rfl, g6, g7, g8, g3, g5⟩
    refine awp_cut (fun _ => false) (fun _ => none) (fun f H' => V = H' ∧ f 6 = Sm.sl l ∧ f 7 = I l.length ∧ f 8 = I i ∧ f 3 = ownS H.length out ∧ f 5 = .bp u 0) (by kernel_rfl) ?_ ?_
    · simp -dsimp [g6, g7, g8, g3, g5, hVu]
      refine acallsW_det (c1 _) ?_
      simp -dsimp [g6, g7, g8, g3, g5, hVu, hVs]
    clear g g6 g7 g8 g3 g5
    rintro g _ ⟨rfl, g6, g7, g8, g3, g5⟩
    refine awp_cut (fun _ => false) (fun _ => none) (fun f H' => V = H' ∧ f 6 = Sm.sl l ∧ f 7 = I l.length ∧ f 8 = I i ∧ f 3 = ownS H.length out ∧ f 5 = .bp u 0) (by kernel_rfl) ?_ ?_
    · simp -dsimp [g6, g7, g8, g3, g5, hVu]
      refine callDW_intro (c2 _) ?_
      simp -dsimp [g6, g7, g8, g3, g5, hVu]
      refine callDW_intro (c3 _) ?_
      simp -dsimp [g6, g7, g8, g3, g5, hVu]
      refine callDW_intro (c4 _) ?_
      simp -dsimp [g6, g7, g8, g3, g5, hVu, hVs]
    clear g g6 g7 g8 g3 g5
    rintro g _ ⟨rfl, g6, g7, g8, g3, g5⟩
    refine awp_cut (fun _ => false) (fun _ => none) (fun f H' => V = H' ∧ f 6 = Sm.sl l ∧ f 7 = I l.length ∧ f 8 = I i ∧ f 3 = ownS H.length out ∧ f 5 = .bp u 0) (by kernel_rfl) ?_ ?_
    · simp -dsimp [g6, g7, g8, g3, g5, hVu]
      refine callDW_intro (c5 _) ?_
      simp -dsimp [g6, g7, g8, g3, g5, hVu]
      refine callDW_intro (c6 _) ?_
      simp -dsimp [g6, g7, g8, g3, g5, hVu, hVs]
    clear g g6 g7 g8 g3 g5
    rintro g _ ⟨rfl, g6, g7, g8, g3, g5⟩
    refine awp_all (fun d => d == 43) (fun _ => none) (by kernel_rfl) ?_
    simp -dsimp [g6, g7, g8, g3, g5, hVu]
    refine appendVW_own (k := H.length) (es := out) (by rw [hV, hrg]) (by simp; omega) (by simp; omega) ?_
    rw [hV, hrs]
    simp -dsimp [g6, g7, g8, g3]
    exact ⟨_, rfl, rfl⟩
end Go.Proofs
namespace Go.Proofs
open Go.Mu
structure Pg.OkC (p : Pg) : Prop where
  regions : p.regions.length ≤ 2^36
  funcs : p.funcs.length ≤ 2^36
  params : ∀ f ∈ p.funcs, f.params.length ≤ 2^36
  vars : ∀ f ∈ p.funcs, f.vars.length ≤ 2^36
  rets : ∀ f ∈ p.funcs, f.rets.length ≤ 2^36
  body : ∀ f ∈ p.funcs, smsCount f.body ≤ 2^36
mutual
theorem under_mono {n m : Nat} (h : n ≤ m) : ∀ (a : AV), a.under n = true → a.under m = true
  | .v _, _ => rfl
  | .vs _ _, _ => rfl
  | .vx _ _, _ => rfl
  | .vp _, _ => rfl
  | .bp k _, hu => by simp only [AV.under, decide_eq_true_eq] at hu ⊢; omega
  | .rp k _ _ _, hu => by simp only [AV.under, decide_eq_true_eq] at hu ⊢; omega
  | .hs k _ _ _, hu => by simp only [AV.under, decide_eq_true_eq] at hu ⊢; omega
  | .hm k, hu => by simp only [AV.under, decide_eq_true_eq] at hu ⊢; omega
  | .hg k, hu => by simp only [AV.under, decide_eq_true_eq] at hu ⊢; omega
  | .hi k, hu => by simp only [AV.under, decide_eq_true_eq] at hu ⊢; omega
  | .yl k, hu => by simp only [AV.under, decide_eq_true_eq] at hu ⊢; omega
  | .fn _ a b, hu => by simp only [AV.under, Bool.and_eq_true] at hu ⊢; exact ⟨underL_mono h a hu.1, underL_mono h b hu.2⟩
  | .ifc _ x, hu => by simp only [AV.under] at hu ⊢; exact under_mono h x hu
  | .agg a, hu => by simp only [AV.under] at hu ⊢; exact underL_mono h a hu
  | .tup a, hu => by simp only [AV.under] at hu ⊢; exact underL_mono h a hu
  | .junk, _ => rfl
theorem underL_mono {n m : Nat} (h : n ≤ m) : ∀ (l : List AV), underL n l = true → underL m l = true
  | [], _ => rfl
  | a :: l, hu => by simp only [underL, Bool.and_eq_true] at hu ⊢; exact ⟨under_mono h a hu.1, underL_mono h l hu.2⟩
end
theorem blk_under_mono {n m : Nat} (h : n ≤ m) (b : Blk) (hu : b.under n = true) : b.under m = true := by
  cases b with
  | box t cs => exact underL_mono h cs hu
  | row t z rs =>
    simp only [Blk.under, List.all_eq_true] at hu ⊢
    exact fun r hr => underL_mono h r (hu r hr)
  | map ms =>
    simp only [Blk.under, List.all_eq_true] at hu ⊢
    exact fun p hp => under_mono h p.2 (hu p hp)
  | mapg ms =>
    simp only [Blk.under, List.all_eq_true] at hu ⊢
    exact fun p hp => under_mono h p.2 (hu p hp)
  | lp st pend n f ps assign body =>
    simp only [Blk.under, List.all_eq_true, List.mem_range] at hu ⊢
    exact fun t ht => under_mono h _ (hu t ht)
  | it km q seen =>
    cases km with
    | none => rfl
    | some k => simp only [Blk.under, decide_eq_true_eq] at hu ⊢; omega
  | _ => rfl
theorem underH_app' {n m : Nat} {A B : List Blk} (h : n ≤ m) (ha : underH n A = true) (hb : ∀ b ∈ B, b.under m = true) : underH m (A ++ B) = true := by
  simp only [underH, List.all_eq_true, List.mem_append] at ha ⊢
  rintro b (hm | hm)
  · exact blk_under_mono h b (ha b hm)
  · exact hb b hm
abbrev fcB (l : List Fc) : Blk := ownB 56 5 (l.map Fc.cells)
abbrev fcS (k : Nat) (l : List Fc) : AV := ownS k (l.map Fc.cells)
theorem cloneP_ok (p : Pg) (hp : p.OkC) (H : List Blk) : ACalls Tryz.prog 38 [.agg p.cells] H (fun e H' => e = .ret (.agg [Rg.sl p.regions, fcS H.length p.funcs]) ∧ H' = H ++ [fcB p.funcs]) := by
  refine acalls_under fun hu _ => acalls_tidy (acalls_spare 1 (acalls_of_awp Tryz.func38 rfl (by kernel_rfl) ?_))
  have hpr := hp.regions
  have hpf := hp.funcs
  obtain ⟨b1, hb1⟩ : ∃ b1, b1 = Blk.box 25 [Rg.sl p.regions, Fc.sl p.funcs] := ⟨_, rfl⟩
  obtain ⟨b2, hb2⟩ : ∃ b2, b2 = Blk.box 25 [nilS, nilS] := ⟨_, rfl⟩
  obtain ⟨M, hM⟩ : ∃ M : List (List AV) → List Blk → List Blk, M = fun out R => H ++ ownB 56 5 out :: b1 :: b2 :: .box 25 [Rg.sl p.regions, ownS H.length out] :: R := ⟨_, rfl⟩
  have hMe : ∀ out R, M out R = H ++ ownB 56 5 out :: b1 :: b2 :: .box 25 [Rg.sl p.regions, ownS H.length out] :: R := fun out R => by rw [hM]
  have hMa : ∀ out R X, M out R ++ X = M out (R ++ X) := fun out R X => by rw [hMe, hMe]; simp
  have hM0 : ∀ out R, (M out R)[H.length]? = some (ownB 56 5 out) := fun out R => by rw [hMe]; simp
  have hM1 : ∀ out R, (M out R)[H.length + 1]? = some (.box 25 [Rg.sl p.regions, Fc.sl p.funcs]) := fun out R => by rw [hMe, ← hb1]; simp
  have hM2 : ∀ out R, (M out R)[H.length + 2]? = some b2 := fun out R => by rw [hMe]; simp
  have hM3 : ∀ out R, (M out R)[H.length + 3]? = some (.box 25 [Rg.sl p.regions, ownS H.length out]) := fun out R => by rw [hMe]; simp
  have hMs : ∀ out R out', ((M out R).set H.length (ownB 56 5 out')).set (H.length + 3) (.box 25 [Rg.sl p.regions, ownS H.length out']) = M out' R := fun out R out' => by rw [hMe, hMe]; simp
  have hMg : ∀ out R X, ((M out R).set H.length X)[H.length + 3]? = some (.box 25 [Rg.sl p.regions, ownS H.length out]) := fun out R X => by rw [List.getElem?_set_ne (by omega)]; exact hM3 _ _
  have hMl : ∀ out R, (M out R).length = H.length + 4 + R.length := fun out R => by rw [hMe]; simp; omega
  refine awp_cut (fun _ => false) (fun _ => none) (fun f H' => H' = H ++ [Blk.pend, b1, b2] ∧ f 1 = .bp (H.length + 1) 0 ∧ f 2 = .bp (H.length + 2) 0) (by kernel_rfl) ?_ ?_
  · rw [hb1, hb2]
    simp -dsimp
  rintro g _ ⟨rfl, g1, g2⟩
  refine awp_cut (fun _ => false) (fun _ => none) (fun f H' => H' = M [] [] ∧ f 1 = .bp (H.length + 1) 0 ∧ f 2 = .bp (H.length + 2) 0 ∧ f 3 = .bp (H.length + 3) 0) (by kernel_rfl) ?_ ?_
  · have cr := fun H => cloneR_ok p.regions (by omega) H
    have hg : (H ++ [Blk.pend, b1, b2])[H.length + 1]? = some (.box 25 [Rg.sl p.regions, Fc.sl p.funcs]) := by rw [← hb1]; simp
    obtain ⟨N, hN⟩ : ∃ N, N = H ++ [Blk.pend, b1, b2] := ⟨_, rfl⟩
    have hNl : N.length = H.length + 3 := by rw [hN]; simp
    have hNM : N ++ [.box 25 [Rg.sl p.regions, nilS]] = M [] [] := by rw [hMe, hN]; simp [ownB]
    rw [← hN] at hg ⊢
    clear hN
    simp -dsimp [g1, g2, hg]
    refine acallsW_det (cr _) ?_
    simp -dsimp [g1, g2, hg, hNl]
    exact hNM
  clear g g1 g2
  rintro g _ ⟨rfl, g1, g2, g3⟩
  refine awp_cutA (fun f H' => (∃ R, H' = M (p.funcs.map Fc.cells) R) ∧ f 2 = .bp (H.length + 2) 0 ∧ f 3 = .bp (H.length + 3) 0) ?_ ?_
  rotate_left
  · clear g g1 g2 g3
    rintro g _ ⟨⟨R, rfl⟩, g2, g3⟩
    refine awp_all (fun _ => false) (fun _ => none) (by kernel_rfl) ?_
    have hMr : ∀ out R X, ((M out R).set (H.length + 2) X)[H.length + 2]? = some X := fun out R X => by
      rw [List.getElem?_set_self (by rw [hMl]; omega)]
    simp -dsimp [g2, g3, hM3, hM2, hb2, hMr]
    have hme : ∀ out X, (M out R).set (H.length + 2) X = (H ++ [ownB 56 5 out]) ++ (b1 :: X :: .box 25 [Rg.sl p.regions, ownS H.length out] :: R) := fun out X => by rw [hMe]; simp
    rw [hme]
    refine tidy_to (by simp) (fun h => underH_app' (n := H.length) (by simp) hu (fun b hb => by
      obtain rfl := List.mem_singleton.1 hb
      exact under_ownB_plain (fcs_frzB p.funcs))) (by
        have := under_ownS (H ++ [ownB 56 5 (p.funcs.map Fc.cells)]).length H.length (p.funcs.map Fc.cells) (by simp)
        simp only [AV.under, underL, this]; rfl) ⟨rfl, rfl⟩
  refine awp_cut (fun _ => false) (fun _ => none) (fun f H' => H' = M [] [] ∧ f 2 = .bp (H.length + 2) 0 ∧ f 3 = .bp (H.length + 3) 0 ∧ f 11 = Fc.sl p.funcs ∧ f 12 = I p.funcs.length ∧ f 13 = I 0) (by kernel_rfl) ?_ ?_
  · simp -dsimp [g1, g2, g3, hM1]
  clear g g1 g2 g3
  rintro g _ ⟨rfl, g2, g3, g11, g12, g13⟩
  refine awp_block ?_
  refine awp_loopI (fun (i : Nat) f H' => (∃ R, H' = M ((p.funcs.map Fc.cells).take i) R) ∧ f 2 = .bp (H.length + 2) 0 ∧ f 3 = .bp (H.length + 3) 0 ∧ f 11 = Fc.sl p.funcs ∧ f 12 = I p.funcs.length ∧ f 13 = I i ∧ i ≤ p.funcs.length) (fun i => p.funcs.length - i) 0
    ⟨⟨[], by simp⟩, g2, g3, g11, g12, g13, by omega⟩ ?_
  clear g g2 g3 g11 g12 g13
  rintro i g _ ⟨⟨R, rfl⟩, g2, g3, g11, g12, g13, hi⟩
  obtain ⟨out, hout⟩ : ∃ out, out = (p.funcs.map Fc.cells).take i := ⟨_, rfl⟩
  have hol : out.length = i := by rw [hout]; simp; omega
  rw [← hout]
  refine awp_cut (fun _ => false) (fun _ => none) (fun f H' => H' = M out R ∧ f 2 = .bp (H.length + 2) 0 ∧ f 3 = .bp (H.length + 3) 0 ∧ f 11 = Fc.sl p.funcs ∧ f 12 = I p.funcs.length ∧ f 13 = I i ∧ f 14 = Bo (decide ((i : Int) < p.funcs.length))) (by kernel_rfl) ?_ ?_
  · simp -dsimp [g2, g3, g11, g12, g13]
  clear g g2 g3 g11 g12 g13
  rintro g _ ⟨rfl, g2, g3, g11, g12, g13, g14⟩
  refine awp_cut (fun _ => false) (fun _ => none) (fun f H' => H' = M out R ∧ f 2 = .bp (H.length + 2) 0 ∧ f 3 = .bp (H.length + 3) 0 ∧ f 11 = Fc.sl p.funcs ∧ f 12 = I p.funcs.length ∧ f 13 = I i ∧ i < p.funcs.length) (by kernel_rfl) ?_ ?_
  · simp -dsimp [g14]
    refine condVW_introD (fun hlt => ?_) (fun hlt => ?_)
    · simp -dsimp [g2, g3, g11, g12, g13]
      omega
    · have : out = p.funcs.map Fc.cells := by rw [hout]; exact List.take_of_length_le (by simp; omega)
      simp -dsimp [g2, g3]
      exact ⟨R, by rw [this]⟩
  clear g g2 g3 g11 g12 g13 g14
  rintro g _ ⟨rfl, g2, g3, g11, g12, g13, hlt⟩
  have hlx : p.funcs[i]? = some p.funcs[i] := List.getElem?_eq_getElem hlt
  have hmx := List.getElem_mem hlt
  have htk : (p.funcs.map Fc.cells).take (i + 1) = out ++ [p.funcs[i].cells] := by rw [take_succV (by simpa using hlt), List.getElem_map, hout]
  obtain ⟨x, hx⟩ : ∃ x, x = p.funcs[i] := ⟨_, rfl⟩
  rw [← hx] at hlx htk hmx
  clear hx hout
  simp only [Fc.cells] at htk
  have c1 := fun H => cloneV_ok x.params (by have := hp.params x hmx; omega) H
  have c2 := fun H => cloneV_ok x.vars (by have := hp.vars x hmx; omega) H
  have c3 := fun H => cloneS_ok x.rets (by have := hp.rets x hmx; omega) H
  have c4 := fun H => cloneStmts_ok _ x.body (Nat.lt_succ_self _) (hp.body x hmx) H
  refine awp_cutA (fun f H' => (∃ R, H' = M ((p.funcs.map Fc.cells).take (i + 1)) R) ∧ f 2 = .bp (H.length + 2) 0 ∧ f 3 = .bp (H.length + 3) 0 ∧ f 11 = Fc.sl p.funcs ∧ f 12 = I p.funcs.length ∧ f 13 = I i) ?_ ?_
  rotate_left
  · clear g g2 g3 g11 g12 g13
    rintro g _ ⟨⟨R, rfl⟩, g2, g3, g11, g12, g13⟩
    refine awp_all (fun _ => false) (fun _ => none) (by kernel_rfl) ?_
    simp -dsimp [g2, g3, g11, g12, g13]
    exact ⟨i + 1, by omega, ⟨R, rfl⟩, wrapS (by omega), by omega⟩
  refine awp_block ?_
  rw [htk]
  obtain ⟨u, hu2⟩ : ∃ u, u = (M out R).length := ⟨_, rfl⟩
  obtain ⟨bF, hbF⟩ : ∃ bF, bF = Blk.box 56 [St x.name, Vr.sl x.params, Vr.sl x.vars, St.sl x.rets, Sm.sl x.body] := ⟨_, rfl⟩
  obtain ⟨R', hR'⟩ : ∃ R', R' = R ++ [bF] := ⟨_, rfl⟩
  have hVu : (M out R')[u]? = some (.box 56 [St x.name, Vr.sl x.params, Vr.sl x.vars, St.sl x.rets, Sm.sl x.body]) := by
    rw [hR', ← hMa, hu2, List.getElem?_append_right (Nat.le_refl _), Nat.sub_self, ← hbF]; rfl
  have hVs := set_same hVu
  refine awp_cut (fun _ => false) (fun _ => none) (fun f H' => H' = M out R' ∧ f 2 = .bp (H.length + 2) 0 ∧ f 3 = .bp (H.length + 3) 0 ∧ f 11 = Fc.sl p.funcs ∧ f 12 = I p.funcs.length ∧ f 13 = I i ∧ f 5 = .bp u 0) (by kernel_rfl) ?_ ?_
  · rw [hR', ← hMa, hbF, hu2]
    simp -dsimp [g2, g3, g11, g12, g13, hlx]
  clear g g2 g3 g11 g12 g13
  rintro g _ ⟨rfl, g2, g3, g11, g12, g13, g5⟩
  refine awp_cut (fun _ => false) (fun _ => none) (fun f H' => H' = M out R' ∧ f 2 = .bp (H.length + 2) 0 ∧ f 3 = .bp (H.length + 3) 0 ∧ f 11 = Fc.sl p.funcs ∧ f 12 = I p.funcs.length ∧ f 13 = I i ∧ f 5 = .bp u 0) (by kernel_rfl) ?_ ?_
  · simp -dsimp [g2, g3, g11, g12, g13, g5, hVu]
    refine callDW_intro (c1 _) ?_
    simp -dsimp [g2, g3, g11, g12, g13, g5, hVu]
    refine callDW_intro (c2 _) ?_
    simp -dsimp [g2, g3, g11, g12, g13, g5, hVu]
    refine callDW_intro (c3 _) ?_
    simp -dsimp [g2, g3, g11, g12, g13, g5, hVu]
    refine callDW_intro (c4 _) ?_
    simp -dsimp [g2, g3, g11, g12, g13, g5, hVu, hVs]
  clear g g2 g3 g11 g12 g13 g5
  rintro g _ ⟨rfl, g2, g3, g11, g12, g13, g5⟩
  refine awp_all (fun d => d == 37) (fun _ => none) (by kernel_rfl) ?_
  simp -dsimp [g2, g3, g11, g12, g13, g5, hVu, hM3]
  refine appendVW_own (k := H.length) (es := out) (by rw [hM0]) (by simp; omega) (by simp; omega) ?_
  simp -dsimp [g2, g3, g11, g12, g13, hMg, hMs]
  exact ⟨R', rfl⟩
end Go.Proofs
namespace Go.Proofs.YtpibcbilkpoomaaGreat.Lift
open Go.ChangeShapes Go.WideShapes Go.ChangeAt Go.RowKit Go.Mu Go.Proofs
section
variable {H : Type} {enc : TypeId × Value → H} {cx : Cx}
theorem tells_i (t : TypeId) (h : Tryz.prog.underlying t = some (.int .i64)) (n : Nat) : Tells enc Tryz.prog cx n t (fun i : Int => [I i]) (fun _ => 1) (fun i => inI i = true) := (tells_int h).map id (fun _ => rfl) (fun _ => Nat.le_refl _) (fun i hi => by simp only [IntKind.min, IntKind.max] at hi; simp only [inI, id, Bool.and_eq_true, decide_eq_true_eq]; exact hi)
theorem tells_u (n : Nat) : Tells enc Tryz.prog cx n 48 (fun i : Int => [U i]) (fun _ => 1) (fun i => inU i = true) := (tells_int (by kernel_rfl)).map id (fun _ => rfl) (fun _ => Nat.le_refl _) (fun i hi => by simp only [IntKind.min, IntKind.max] at hi; simp only [inU, id, Bool.and_eq_true, decide_eq_true_eq]; exact hi)
theorem tells_b (n : Nat) : Tells enc Tryz.prog cx n 4 (fun b : Bool => [Bo b]) (fun _ => 1) (fun _ => True) := tells_bool (by kernel_rfl)
theorem tells_s (n : Nat) : Tells enc Tryz.prog cx n 9 (fun s : ByteArray => [St s]) (fun s => s.size + 1) (fun _ => True) := tells_string (by kernel_rfl)
theorem sizes_mem {α : Type} {size : α → Nat} {l : List α} {a : α} (h : a ∈ l) : size a ≤ sizes size l := by
  induction l with
  | nil => cases h
  | cons b l ih =>
    simp only [sizes, List.map_cons, List.sum_cons] at ih ⊢
    rcases List.mem_cons.1 h with rfl | h
    · omega
    · have := ih h; omega
theorem exs_sizes (l : List Ex) : sizes Ex.count l = exsCount l := by
  induction l with
  | nil => rfl
  | cons e l ih => simp only [sizes, List.map_cons, List.sum_cons, exsCount] at ih ⊢; omega
theorem sms_sizes (l : List Sm) : sizes Sm.count l = smsCount l := by
  induction l with
  | nil => rfl
  | cons e l ih => simp only [sizes, List.map_cons, List.sum_cons, smsCount] at ih ⊢; omega
theorem tells_strs (hΦ : ∀ b, b < cx.w.heap.size → cx.Φ b) : ∀ n, Tells enc Tryz.prog cx n 54 (fun l : List ByteArray => [St.sl l]) (sizes fun s => s.size + 1) (fun _ => True)
  | 0 => tells_zero
  | n + 1 => (tells_slice (e := 9) (sz := 1) (by kernel_rfl) (by kernel_rfl) (by omega) hΦ (tells_s n)).map id (fun _ => rfl) (fun l => Nat.le_succ _) (fun _ _ => trivial)
theorem tells_exs2 (hΦ : ∀ b, b < cx.w.heap.size → cx.Φ b) : ∀ n, Tells enc Tryz.prog cx n 73 Ex.cells Ex.count (fun e => e.rng = true) ∧ Tells enc Tryz.prog cx n 71 (fun l : List Ex => [Ex.sl l]) exsCount (fun l => exsRng l = true)
  | 0 => ⟨tells_zero, tells_zero⟩
  | n + 1 => by
    obtain ⟨h1, h2⟩ := tells_exs2 hΦ n
    refine ⟨(tells_struct (fl := [(70, 0, 1), (48, 1, 1), (9, 2, 1), (71, 3, 1)]) (by kernel_rfl) (by kernel_rfl)
      (tellsF_cons (tells_i 70 (by kernel_rfl) n) (tellsF_cons (tells_u n) (tellsF_cons (tells_s n) (tellsF_cons h2 tellsF_nil))))).map (fun (a0, a1, a2, a3, _) => Ex.mk a0 a1 a2 a3) (fun _ => Ex.cells_eq _) (fun ⟨a0, a1, a2, a3, _⟩ => by simp only [Ex.count]; omega) (fun ⟨a0, a1, a2, a3, _⟩ ⟨h0, h1, _, h3, _⟩ => by rw [Ex.rng, h0, h1, h3]; rfl), ?_⟩
    exact (tells_slice (e := 73) (sz := 4) (by kernel_rfl) (by kernel_rfl) (by omega) hΦ h1).map id (fun _ => rfl) (fun l => by rw [exs_sizes]; exact Nat.le_succ _) (fun l h => exs_rng h)
theorem tells_sms2 (hΦ : ∀ b, b < cx.w.heap.size → cx.Φ b) : ∀ n, Tells enc Tryz.prog cx n 82 Sm.cells Sm.count (fun e => e.rng = true) ∧ Tells enc Tryz.prog cx n 52 (fun l : List Sm => [Sm.sl l]) smsCount (fun l => smsRng l = true)
  | 0 => ⟨tells_zero, tells_zero⟩
  | n + 1 => by
    obtain ⟨h1, h2⟩ := tells_sms2 hΦ n
    obtain ⟨e1, e2⟩ := tells_exs2 (enc := enc) hΦ n
    refine ⟨(tells_struct (fl := [(80, 0, 1), (9, 1, 1), (54, 2, 1), (73, 3, 4), (73, 7, 4), (71, 11, 1), (48, 12, 1), (48, 13, 1), (52, 14, 1), (52, 15, 1)]) (by kernel_rfl) (by kernel_rfl)
      (tellsF_cons (tells_i 80 (by kernel_rfl) n) (tellsF_cons (tells_s n) (tellsF_cons (tells_strs hΦ n) (tellsF_cons e1 (tellsF_cons e1 (tellsF_cons e2 (tellsF_cons (tells_u n) (tellsF_cons (tells_u n) (tellsF_cons h2 (tellsF_cons h2 tellsF_nil))))))))))).map
      (fun (a0, a1, a2, a3, a4, a5, a6, a7, a8, a9, _) => Sm.mk a0 a1 a2 a3 a4 a5 a6 a7 a8 a9) (fun ⟨a0, a1, a2, a3, a4, a5, a6, a7, a8, a9, _⟩ => by rw [Sm.cells_eq, Ex.cells_eq, Ex.cells_eq]; rfl)
      (fun ⟨a0, a1, a2, a3, a4, a5, a6, a7, a8, a9, _⟩ => by have := sizes_len (size := fun s : ByteArray => s.size + 1) (fun _ => by omega) a2; simp only [Sm.count]; omega) (fun ⟨a0, a1, a2, a3, a4, a5, a6, a7, a8, a9, _⟩ ⟨h0, _, _, h3, h4, h5, h6, h7, h8, h9, _⟩ => by rw [Sm.rng, h0, h3, h4, h5, h6, h7, h8, h9]; rfl), ?_⟩
    exact (tells_slice (e := 82) (sz := 16) (by kernel_rfl) (by kernel_rfl) (by omega) hΦ h1).map id (fun _ => rfl) (fun l => by rw [sms_sizes]; exact Nat.le_succ _) (fun l h => sms_rng h)
def vrSize (v : Vr) : Nat := v.name.size + 1
def rgSize (r : Rg) : Nat := r.name.size + 1
def fcSize (f : Fc) : Nat := f.name.size + sizes vrSize f.params + sizes vrSize f.vars + sizes (fun s => s.size + 1) f.rets + smsCount f.body + 1
def pgSize (p : Pg) : Nat := sizes rgSize p.regions + sizes fcSize p.funcs
theorem tells_vr : ∀ n, Tells enc Tryz.prog cx n 120 Vr.cells vrSize (fun v => v.rng = true)
  | 0 => tells_zero
  | n + 1 => (tells_struct (fl := [(9, 0, 1), (118, 1, 1), (3, 2, 1), (4, 3, 1)]) (by kernel_rfl) (by kernel_rfl)
      (tellsF_cons (tells_s n) (tellsF_cons (tells_i 118 (by kernel_rfl) n) (tellsF_cons (tells_i 3 (by kernel_rfl) n) (tellsF_cons (tells_b n) tellsF_nil))))).map (fun (a0, a1, a2, a3, _) => ⟨a0, a1, a2, a3⟩) (fun _ => rfl) (fun ⟨a0, a1, a2, a3, _⟩ => by simp only [vrSize]; omega) (fun ⟨a0, a1, a2, a3, _⟩ ⟨_, h1, h2, _⟩ => by show (inI a1 && inI a2) = true; rw [h1, h2]; rfl)
theorem tells_rg : ∀ n, Tells enc Tryz.prog cx n 96 Rg.cells rgSize (fun v => v.rng = true)
  | 0 => tells_zero
  | n + 1 => (tells_struct (fl := [(9, 0, 1), (3, 1, 1), (3, 2, 1), (4, 3, 1)]) (by kernel_rfl) (by kernel_rfl)
      (tellsF_cons (tells_s n) (tellsF_cons (tells_i 3 (by kernel_rfl) n) (tellsF_cons (tells_i 3 (by kernel_rfl) n) (tellsF_cons (tells_b n) tellsF_nil))))).map (fun (a0, a1, a2, a3, _) => ⟨a0, a1, a2, a3⟩) (fun _ => rfl) (fun ⟨a0, a1, a2, a3, _⟩ => by simp only [rgSize]; omega) (fun ⟨a0, a1, a2, a3, _⟩ ⟨_, h1, h2, _⟩ => by show (inI a1 && inI a2) = true; rw [h1, h2]; rfl)
theorem tells_vrs (hΦ : ∀ b, b < cx.w.heap.size → cx.Φ b) : ∀ n, Tells enc Tryz.prog cx n 53 (fun l : List Vr => [Vr.sl l]) (sizes vrSize) (fun l => l.all Vr.rng = true)
  | 0 => tells_zero
  | n + 1 => (tells_slice (e := 120) (sz := 4) (by kernel_rfl) (by kernel_rfl) (by omega) hΦ (tells_vr n)).map id (fun _ => rfl) (fun l => Nat.le_succ _) (fun l h => List.all_eq_true.2 h)
theorem tells_rgs (hΦ : ∀ b, b < cx.w.heap.size → cx.Φ b) : ∀ n, Tells enc Tryz.prog cx n 22 (fun l : List Rg => [Rg.sl l]) (sizes rgSize) (fun l => l.all Rg.rng = true)
  | 0 => tells_zero
  | n + 1 => (tells_slice (e := 96) (sz := 4) (by kernel_rfl) (by kernel_rfl) (by omega) hΦ (tells_rg n)).map id (fun _ => rfl) (fun l => Nat.le_succ _) (fun l h => List.all_eq_true.2 h)
theorem tells_fc (hΦ : ∀ b, b < cx.w.heap.size → cx.Φ b) : ∀ n, Tells enc Tryz.prog cx n 56 Fc.cells fcSize (fun f => f.rng = true)
  | 0 => tells_zero
  | n + 1 => (tells_struct (fl := [(9, 0, 1), (53, 1, 1), (53, 2, 1), (54, 3, 1), (52, 4, 1)]) (by kernel_rfl) (by kernel_rfl)
      (tellsF_cons (tells_s n) (tellsF_cons (tells_vrs hΦ n) (tellsF_cons (tells_vrs hΦ n) (tellsF_cons (tells_strs hΦ n) (tellsF_cons (tells_sms2 hΦ n).2 tellsF_nil)))))).map (fun (a0, a1, a2, a3, a4, _) => ⟨a0, a1, a2, a3, a4⟩) (fun _ => rfl) (fun ⟨a0, a1, a2, a3, a4, _⟩ => by simp only [fcSize]; omega) (fun ⟨a0, a1, a2, a3, a4, _⟩ ⟨_, h1, h2, _, h4, _⟩ => by show (a1.all Vr.rng && a2.all Vr.rng && smsRng a4) = true; rw [h1, h2, h4]; rfl)
theorem tells_fcs (hΦ : ∀ b, b < cx.w.heap.size → cx.Φ b) : ∀ n, Tells enc Tryz.prog cx n 23 (fun l : List Fc => [Fc.sl l]) (sizes fcSize) (fun l => l.all Fc.rng = true)
  | 0 => tells_zero
  | n + 1 => (tells_slice (e := 56) (sz := 5) (by kernel_rfl) (by kernel_rfl) (by omega) hΦ (tells_fc hΦ n)).map id (fun _ => rfl) (fun l => Nat.le_succ _) (fun l h => List.all_eq_true.2 h)
theorem tells_pg (hΦ : ∀ b, b < cx.w.heap.size → cx.Φ b) : ∀ n, Tells enc Tryz.prog cx n 25 Pg.cells pgSize (fun p => p.rng = true)
  | 0 => tells_zero
  | n + 1 => (tells_struct (fl := [(22, 0, 1), (23, 1, 1)]) (by kernel_rfl) (by kernel_rfl)
      (tellsF_cons (tells_rgs hΦ n) (tellsF_cons (tells_fcs hΦ n) tellsF_nil))).map (fun (a0, a1, _) => ⟨a0, a1⟩) (fun _ => rfl) (fun ⟨a0, a1, _⟩ => by simp only [pgSize]; omega) (fun ⟨a0, a1, _⟩ ⟨h0, h1, _⟩ => by show (a0.all Rg.rng && a1.all Fc.rng) = true; rw [h0, h1]; rfl)
theorem pg_ok {p : Pg} (h : pgSize p ≤ 1048576) : p.Ok3 := by
  have hr : p.regions.length ≤ pgSize p := by have := sizes_len (size := rgSize) (fun _ => by simp [rgSize]) p.regions; unfold pgSize; omega
  have hf : p.funcs.length ≤ pgSize p := by have := sizes_len (size := fcSize) (fun _ => by simp [fcSize]) p.funcs; unfold pgSize; omega
  have hF : ∀ f ∈ p.funcs, fcSize f ≤ 1048576 := fun f hf => by have := sizes_mem (size := fcSize) hf; unfold pgSize at h; omega
  have hn : ∀ l : List Fc, funcsNum l ≤ sizes fcSize l := by
    intro l
    induction l with
    | nil => simp [funcsNum, sizes]
    | cons f l ih =>
      simp only [funcsNum, sizes, List.map_cons, List.sum_cons] at ih ⊢
      have := smsNum_le _ f.body 1 (Nat.le_refl _)
      have : smsCount f.body ≤ fcSize f := by unfold fcSize; omega
      omega
  refine ⟨⟨⟨by omega, by omega, fun f hf => ?_, fun f hf => ?_, fun f hf => ?_, fun f hf => ?_⟩, ⟨fun r hr => ?_, fun f hf => ⟨?_, fun v hv => ?_, fun s hs => ?_⟩⟩, fun f hf => ?_⟩, ?_⟩
  · have := hF f hf; unfold fcSize at this; omega
  · have := hF f hf; have h2 := sizes_len (size := vrSize) (fun _ => by simp [vrSize]) f.params; unfold fcSize at this; omega
  · have := hF f hf; have h2 := sizes_len (size := vrSize) (fun _ => by simp [vrSize]) f.vars; unfold fcSize at this; omega
  · have := hF f hf; have h2 := sizes_len (size := fun s : ByteArray => s.size + 1) (fun _ => by omega) f.rets; unfold fcSize at this; omega
  · have h2 := sizes_mem (size := rgSize) hr; have h3 : rgSize r = r.name.size + 1 := rfl; unfold pgSize at h; omega
  · have := hF f hf; unfold fcSize at this; omega
  · have := hF f hf
    unfold fcSize at this
    rcases List.mem_append.1 hv with hv | hv
    · have h2 := sizes_mem (size := vrSize) hv; simp only [vrSize] at h2 this; omega
    · have h2 := sizes_mem (size := vrSize) hv; simp only [vrSize] at h2 this; omega
  · have := hF f hf; have h2 : s.size + 1 ≤ sizes (fun s : ByteArray => s.size + 1) f.rets := sizes_mem (size := fun s : ByteArray => s.size + 1) hs; unfold fcSize at this; omega
  · have := hF f hf; unfold fcSize at this; omega
  · have := hn p.funcs; unfold pgSize at h; omega
theorem pg_okC {p : Pg} (h : pgSize p ≤ 1048576) : p.OkC := by
  have h3 := pg_ok h
  have hrl : p.regions.length ≤ pgSize p := by have := sizes_len (size := rgSize) (fun _ => by simp [rgSize]) p.regions; unfold pgSize; omega
  have hfl : p.funcs.length ≤ pgSize p := by have := sizes_len (size := fcSize) (fun _ => by simp [fcSize]) p.funcs; unfold pgSize; omega
  have hF : ∀ f ∈ p.funcs, fcSize f ≤ 1048576 := fun f hf => by have := sizes_mem (size := fcSize) hf; unfold pgSize at h; omega
  refine ⟨by omega, by omega, h3.ok.ok.params, h3.ok.ok.vars, fun f hf => ?_, h3.ok.body36⟩
  have := hF f hf; have h2 := sizes_len (size := fun s : ByteArray => s.size + 1) (fun _ => by omega) f.rets; unfold fcSize at this; omega
end
theorem arg_pg {H : Type} {enc : TypeId × Value → H} {W : World} {base : Nat} : ArgOk enc Tryz.prog W base 25 (fun a => .agg (Pg.cells a)) pgSize (fun p => p.rng = true) := arg_struct Tryz.underlying25 (tells_pg fun _ h => h)
theorem arg_ex {H : Type} {enc : TypeId × Value → H} {W : World} {base : Nat} : ArgOk enc Tryz.prog W base 73 (fun e : Ex => .agg e.cells) Ex.count (fun e => e.rng = true) := arg_struct Tryz.underlying73 (fun n => (tells_exs2 (fun _ h => h) n).1)
end Go.Proofs.YtpibcbilkpoomaaGreat.Lift
