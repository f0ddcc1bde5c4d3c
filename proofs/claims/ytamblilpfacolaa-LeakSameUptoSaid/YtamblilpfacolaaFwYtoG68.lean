/- A region whose order of evaluation is drawn, in which operations that change something may come in many orders. -/
import Derived.Test.YtamblilpfacolaaFwXtoG57
set_option linter.unusedVariables false
set_option linter.unusedSimpArgs false
set_option maxHeartbeats 4000000
set_option maxRecDepth 100000
namespace Go.Mu
/-- Orders: some operations that change nothing, and then one of several. -/
inductive FT where
  | lin (p : OPlan)
  | fork (pre : List Nat) (ats : FT)
  | alt (i : Nat) (late : List Nat) (t more : FT)
  | none
def FT.heads : FT → List Nat
  | .alt i _ _ more => i :: more.heads
  | _ => []
def FT.top : FT → Bool
  | .lin _ | .fork .. => true
  | _ => false
section
variable {P : Program} {n : Nat} {pu : Nat → Bool} {ops : Array Oper} {Q : AQ}
theorem vx_impK {tab : List (Nat × Oper × Nat)} (htab : TabOk ops tab) {hf : Oper → Bool} (hsm : ∀ (i : Nat) (o : Oper), ops[i]? = some o → smallO n ops o = true)
    (hlt : ∀ (j : Nat) (o : Oper), ops[j]? = some o → ∀ e ∈ o.after, Region.binds .any e = true → e.on < j) {ds : List ADef} {K : Fr → List Blk → Prop} {fuel : Nat} {done rem L : List Nat} {listed : Array Bool} {f fa : Fr} {H : List Blk} {i0 : Nat} {lt : List Nat} {oi : Oper}
    (hi : SInv P pu hf ops done rem L listed f fa H) (hir : i0 ∈ Region.ready .any ops listed) (ho0 : ops[i0]? = some oi) (hpu : pu i0 = false) (hrd : readyB ops rem i0 = true)
    (hop2 : (done.all fun j => (maskOf tab i0).testBit j || !pu j || (match ops[j]? with | none => false | some oj => pu j && !lookB ops oj oi && (lt.contains j || hf oj))) = true)
    (hrest : ∀ (L : List Nat) (listed : Array Bool) (f fa : Fr) (H : List Blk), SInv P pu hf ops (i0 :: done) (rem.erase i0) L listed f fa H → (rem.erase i0).length + L.length ≤ fuel → K f H → AA P pu ops Q ds fuel listed fa H) (hfu : rem.length + L.length ≤ fuel + 1)
    (hv : StepB P ops oi f H ds Q (fun f' H' => (∀ j ∈ lt, ∀ oj, ops[j]? = some oj → ∃ r, StepD P ops oj f' H' r ∧ ∀ d, oj.dst = some d → f' d = r) ∧ K f' H')) :
    StepB P ops oi fa H ds Q (fun f' H' => AA P pu ops Q ds fuel (listed.setIfInBounds i0 true) f' H') := by
  have hrd' := hrd
  simp only [readyB, Bool.and_eq_true, List.contains_iff_mem] at hrd'
  obtain ⟨hi0r, hedges⟩ := hrd'
  have hi0l := hi.remlt _ hi0r
  have hlen0 := List.length_erase_of_mem hi0r
  have hpos0 := List.length_pos_of_mem hi0r
  rw [ho0] at hedges
  simp only at hedges
  simp only [List.all_eq_true, Bool.or_eq_true] at hop2
  have hed : ∀ e ∈ oi.after, Region.binds .any e = true → e.on ∉ rem := by
    intro e he hb hm
    have := List.all_eq_true.1 hedges e (by simpa using he)
    simp only [hb, Bool.not_true, Bool.false_or, Bool.and_eq_true, Bool.not_eq_true'] at this
    rw [List.contains_iff_mem.2 hm] at this; exact absurd this.1 (by simp)
  have hdn : ∀ i, i < ops.size → (i ∈ i0 :: done ↔ i ∉ rem.erase i0) := by
    intro i hil
    rw [hi.rnodup.mem_erase_iff, List.mem_cons, hi.dn i hil]
    by_cases h : i = i0
    · subst h; simp
    · simp [h]
  have hdc : ∀ i o, ops[i]? = some o → i ∉ rem.erase i0 → ∀ e ∈ o.after, Region.binds .any e = true → e.on ∉ rem.erase i0 := by
    intro i o ho hnm e he hb hm
    have hm' := List.mem_of_mem_erase hm
    by_cases h : i = i0
    · subst h; rw [ho0] at ho; cases ho; exact hed e he hb hm'
    · refine hi.dclosed i o ho (fun hir => hnm (hi.rnodup.mem_erase_iff.2 ⟨h, hir⟩)) e he hb hm'
  obtain ⟨m1, o, m2, m3⟩ := mem_ready.1 hir
  have hil := (Array.getElem?_eq_some_iff.1 m2).1
  have hag : ∀ t ∈ oi.looksAt ops, f t = fa t := by
    intro t ht
    refine (hi.agree t fun k hk ok hok hd => ?_).symm
    obtain ⟨_, o2, ho2, _, g1, _⟩ := hi.good k hk
    rw [hok] at ho2; cases ho2
    have hre := g1 i0 oi t ho0 hd ht
    have hkl := reach_listed hi.closed hre fun o3 h3 e he hb => by rw [m2] at h3; cases h3; exact m3 e he hb
    have := (hi.un k (Array.getElem?_eq_some_iff.1 hok).1).2 (.inr hk)
    rw [hkl] at this; cases this
  rw [ho0] at m2; cases m2
  have hmask : maskFr ops f = maskFr ops fa := by
    funext t
    unfold maskFr
    split
    · rfl
    · rename_i hno
      refine (hi.agree t fun j hj o ho hd => hno ?_).symm
      rw [Array.any_eq_true']
      exact ⟨o, Array.mem_of_getElem? ho, by simp [hd]⟩
  refine stepB_congr (hsm _ _ ho0) hag hmask (fun r H' hk => ?_) hv
  obtain ⟨hlate, hv'⟩ := hk
  refine hrest L _ (updO f oi.dst r) (updO fa oi.dst r) H' ?_ (by omega) hv'
  refine ⟨by simp [hi.size], fun k hkl => ?_, fun k h => hi.remlt k (List.mem_of_mem_erase h), closed_set hi.closed hir, hdn, hdc, hi.nodup, hi.rnodup.erase i0, fun j hj => ?_, fun t ht => ?_⟩
  · rw [getD_set (by rw [hi.size]; exact hi0l), hi.rnodup.mem_erase_iff]
    by_cases h : k = i0
    · subst h; simp; exact fun h => (hi.good k h).1 hi0r
    · rw [if_neg h, hi.un k hkl]; simp [h]
  · obtain ⟨hjr, o, ho, g1, g2, g3, r', h1, h2, h3⟩ := hi.good j hj
    have hjl := (Array.getElem?_eq_some_iff.1 ho).1
    have hjd : j ∈ done := (hi.dn j hjl).2 hjr
    have hnre : (maskOf tab i0).testBit j ≠ true := fun h => by
      have := reach_listed hi.closed (maskOf_spec htab h) fun o' ho' e he hb => m3 e (by rw [ho0] at ho'; cases ho'; exact he) hb
      have h2 := (hi.un j hjl).2 (.inr hj)
      rw [this] at h2; cases h2
    have hcl := (hop2 j hjd).resolve_left (fun h => h.elim hnre fun h => by rw [(hi.good j hj).2.choose_spec.2.1] at h; cases h)
    rw [ho] at hcl
    simp only [Bool.and_eq_true, Bool.or_eq_true, Bool.not_eq_true'] at hcl
    obtain ⟨⟨_, hlook⟩, hlf⟩ := hcl
    have hun : ∀ t ∈ o.looksAt ops, f t = updO f oi.dst r t := by
      intro t ht
      refine (updO_of_not (l := o.looksAt ops) (fun d hd hm => ?_) t ht).symm
      simp only [lookB, hd] at hlook
      rw [List.contains_iff_mem.2 hm] at hlook; cases hlook
    have hdst : ∀ d, o.dst = some d → updO f oi.dst r d = f d := by
      intro d hd
      have hne : oi.dst ≠ some d := g3 i0 oi d ho0 (fun e => hjr (e ▸ hi0r)) hd
      cases hd0 : oi.dst with
      | none => rfl
      | some d0 => simp only [updO, upd]; rw [if_neg]; rintro rfl; exact hne hd0
    refine ⟨fun h => hjr (List.mem_of_mem_erase h), o, ho, g1, g2, g3, ?_⟩
    by_cases hh : hf o = true
    · exact ⟨r', stepD_congr (hsm _ _ ho) hun (h2 hh H'), fun h H'' => stepD_congr (hsm _ _ ho) hun (h2 h H''), fun d hd => by rw [hdst d hd]; exact h3 d hd⟩
    · have hjlate : j ∈ lt := List.contains_iff_mem.1 (hlf.resolve_right hh)
      obtain ⟨r2, q1, q2⟩ := hlate j hjlate o ho
      exact ⟨r2, q1, fun h => absurd h hh, q2⟩
  · cases hd0 : oi.dst with
    | none => exact hi.agree t ht
    | some d0 =>
      simp only [updO, upd]
      by_cases htd : t = d0
      · rw [if_pos htd, if_pos htd]
      · rw [if_neg htd, if_neg htd]; exact hi.agree t ht

def planP (pu : Nat → Bool) (ops : Array Oper) (tab : List (Nat × Oper × Nat)) (k : List Nat → List Nat → Bool) : List Nat → List Nat → List Nat → Bool
  | done, rem, [] => k done rem
  | done, rem, i :: rest => readyB ops rem i && pu i && (match ops[i]? with | none => false | some oi => aloneB ops tab i oi) && planP pu ops tab k (i :: done) (rem.erase i) rest
def VP (P : Program) (hf : Oper → Bool) (ops : Array Oper) (k : Fr → List Blk → Prop) : List Nat → Fr → List Blk → Prop
  | [], f, H => k f H
  | i :: rest, f, H => match ops[i]? with
    | none => False
    | some o => ∃ r, StepD P ops o f H r ∧ (hf o = true → ∀ H', StepD P ops o f H' r) ∧ VP P hf ops k rest (updO f o.dst r) H
def planT (pu : Nat → Bool) (hf : Oper → Bool) (ops : Array Oper) (tab : List (Nat × Oper × Nat)) : FT → List Nat → List Nat → Bool
  | .lin p, done, rem => planX pu hf ops tab done rem p
  | .fork pre ats, done, rem => planP pu ops tab (fun done rem => (rem.all fun x => ats.heads.any fun h => x == h || (maskOf tab x).testBit h) && ats.heads.all (fun h => rem.contains h) && !ats.heads.isEmpty && planT pu hf ops tab ats done rem) done rem pre
  | .alt i lt t more, done, rem => readyB ops rem i && !pu i && (match ops[i]? with
      | none => false
      | some oi => done.all fun j => (maskOf tab i).testBit j || !pu j || (match ops[j]? with | none => false | some oj => pu j && !lookB ops oj oi && (lt.contains j || hf oj))) &&
      t.top && planT pu hf ops tab t (i :: done) (rem.erase i) && planT pu hf ops tab more done rem
  | .none, _, _ => true
def VT (P : Program) (pu : Nat → Bool) (hf : Oper → Bool) (ops : Array Oper) (Q : AQ) (ds : List ADef) : FT → Fr → List Blk → Prop
  | .lin p, f, H => VX P pu hf ops Q ds p f H
  | .fork pre ats, f, H => VP P hf ops (fun f H => VT P pu hf ops Q ds ats f H) pre f H
  | .alt i lt t more, f, H => (match ops[i]? with
      | none => False
      | some o => StepB P ops o f H ds Q (fun f' H' => (∀ j ∈ lt, ∀ oj, ops[j]? = some oj → ∃ r, StepD P ops oj f' H' r ∧ ∀ d, oj.dst = some d → f' d = r) ∧ VT P pu hf ops Q ds t f' H')) ∧ VT P pu hf ops Q ds more f H
  | .none, _, _ => True
theorem vp_sound {tab : List (Nat × Oper × Nat)} (htab : TabOk ops tab) {hf : Oper → Bool} (hsm : ∀ (i : Nat) (o : Oper), ops[i]? = some o → smallO n ops o = true)
    (hlt : ∀ (j : Nat) (o : Oper), ops[j]? = some o → ∀ e ∈ o.after, Region.binds .any e = true → e.on < j) {ds : List ADef} {kb : List Nat → List Nat → Bool} {kv : Fr → List Blk → Prop}
    (hk : ∀ (fuel : Nat) (done rem L : List Nat) (listed : Array Bool) (f fa : Fr) (H : List Blk), kb done rem = true → SInv P pu hf ops done rem L listed f fa H → rem.length + L.length ≤ fuel → kv f H → AA P pu ops Q ds fuel listed fa H) :
    ∀ (p : List Nat) (fuel : Nat) (done rem L : List Nat) (listed : Array Bool) (f fa : Fr) (H : List Blk), planP pu ops tab kb done rem p = true → SInv P pu hf ops done rem L listed f fa H → rem.length + L.length ≤ fuel →
    VP P hf ops kv p f H → AA P pu ops Q ds fuel listed fa H := by
  intro p
  induction p with
  | nil => exact hk
  | cons i0 p ihp =>
    intro fuel done rem L listed f fa H hc hi hfu hv
    simp only [planP, Bool.and_eq_true] at hc
    obtain ⟨⟨⟨hrd, hpu⟩, hop⟩, hrest⟩ := hc
    have hrd' := hrd
    simp only [readyB, Bool.and_eq_true, List.contains_iff_mem] at hrd'
    obtain ⟨hi0r, hedges⟩ := hrd'
    have hi0l := hi.remlt _ hi0r
    have ho0 : ops[i0]? = some (ops[i0]'hi0l) := Array.getElem?_eq_getElem hi0l
    generalize ops[i0]'hi0l = oi at ho0
    have hlen0 := List.length_erase_of_mem hi0r
    have hpos0 := List.length_pos_of_mem hi0r
    rw [ho0] at hop hedges
    simp only at hop hedges
    simp only [VP, ho0] at hv
    have hed : ∀ e ∈ oi.after, Region.binds .any e = true → e.on ∉ rem := by
      intro e he hb hm
      have := List.all_eq_true.1 hedges e (by simpa using he)
      simp only [hb, Bool.not_true, Bool.false_or, Bool.and_eq_true, Bool.not_eq_true'] at this
      rw [List.contains_iff_mem.2 hm] at this; exact absurd this.1 (by simp)
    have hdn : ∀ i, i < ops.size → (i ∈ i0 :: done ↔ i ∉ rem.erase i0) := by
      intro i hil
      rw [hi.rnodup.mem_erase_iff, List.mem_cons, hi.dn i hil]
      by_cases h : i = i0
      · subst h; simp
      · simp [h]
    have hdc : ∀ i o, ops[i]? = some o → i ∉ rem.erase i0 → ∀ e ∈ o.after, Region.binds .any e = true → e.on ∉ rem.erase i0 := by
      intro i o ho hnm e he hb hm
      have hm' := List.mem_of_mem_erase hm
      by_cases h : i = i0
      · subst h; rw [ho0] at ho; cases ho; exact hed e he hb hm'
      · refine hi.dclosed i o ho (fun hir => hnm (hi.rnodup.mem_erase_iff.2 ⟨h, hir⟩)) e he hb hm'
    obtain ⟨r, hr1, hr2, hv'⟩ := hv
    have hal1 : ∀ k ok d, ops[k]? = some ok → oi.dst = some d → d ∈ ok.looksAt ops → Reach ops k i0 := by
      intro k ok d hok hd hm
      simp only [aloneB, hd, List.all_eq_true, List.mem_range] at hop
      have := hop k (Array.getElem?_eq_some_iff.1 hok).1
      rw [hok] at this
      simp only [Bool.and_eq_true, Bool.or_eq_true, Bool.not_eq_true'] at this
      rcases this.1 with h | h
      · rw [List.contains_iff_mem.2 hm] at h; cases h
      · exact maskOf_spec htab h
    have hal2 : ∀ k ok d, ops[k]? = some ok → k ≠ i0 → oi.dst = some d → ok.dst ≠ some d := by
      intro k ok d hok hne hd
      simp only [aloneB, hd, List.all_eq_true, List.mem_range] at hop
      have := hop k (Array.getElem?_eq_some_iff.1 hok).1
      rw [hok] at this
      simp only [Bool.and_eq_true, Bool.or_eq_true, beq_iff_eq, bne_iff_ne] at this
      exact this.2.resolve_left hne
    have hun : ∀ o : Oper, (∃ j, ops[j]? = some o ∧ ¬ Reach ops j i0) → ∀ t ∈ o.looksAt ops, f t = updO f oi.dst r t := by
      rintro o ⟨j, hj, hnr⟩ t ht
      refine (updO_of_not (l := o.looksAt ops) (fun d hd hm => hnr (hal1 j o d hj hd hm)) t ht).symm
    refine ihp fuel (i0 :: done) (rem.erase i0) (i0 :: L) listed (updO f oi.dst r) fa H hrest ?_ (by simp; omega) hv'
    have hi0L : i0 ∉ L := fun h => (hi.good i0 h).1 hi0r
    refine ⟨hi.size, fun i hil => ?_, fun i h => hi.remlt i (List.mem_of_mem_erase h), hi.closed, hdn, hdc, List.nodup_cons.2 ⟨hi0L, hi.nodup⟩, hi.rnodup.erase i0, fun j hj => ?_, fun t ht => ?_⟩
    · rw [hi.un i hil, hi.rnodup.mem_erase_iff, List.mem_cons]
      by_cases h : i = i0
      · subst h; simp [hi0r]
      · simp [h]
    · rcases List.mem_cons.1 hj with rfl | hj
      · refine ⟨fun h => (hi.rnodup.mem_erase_iff.1 h).1 rfl, oi, ho0, hpu, hal1, hal2, r, ?_, ?_, ?_⟩
        · exact stepD_congr (hsm _ _ ho0) (hun oi ⟨_, ho0, fun h => Nat.lt_irrefl _ (reach_lt hlt h)⟩) hr1
        · exact fun h H' => stepD_congr (hsm _ _ ho0) (hun oi ⟨_, ho0, fun h => Nat.lt_irrefl _ (reach_lt hlt h)⟩) (hr2 h H')
        · intro d hd; simp [updO, upd, hd]
      · obtain ⟨hjr, o, ho, g1, g2, g3, r', h1, h2, h3⟩ := hi.good j hj
        have hnr : ¬ Reach ops j i0 := fun h => reach_closed (S := fun k => k ∉ rem) (fun i o ho hn e he hb => hi.dclosed i o ho hn e he hb) h hjr hi0r
        refine ⟨fun h => hjr (List.mem_of_mem_erase h), o, ho, g1, g2, g3, r', stepD_congr (hsm _ _ ho) (hun o ⟨j, ho, hnr⟩) h1, fun h H' => stepD_congr (hsm _ _ ho) (hun o ⟨j, ho, hnr⟩) (h2 h H'), fun d hd => ?_⟩
        have hne : oi.dst ≠ some d := g3 i0 oi d ho0 (fun e => hjr (e ▸ hi0r)) hd
        rw [← h3 d hd]
        cases hd0 : oi.dst with
        | none => rfl
        | some d0 => simp only [updO, upd]; rw [if_neg]; rintro rfl; exact hne hd0
    · have e1 : fa t = f t := hi.agree t fun j hj o ho => ht j (List.mem_cons_of_mem _ hj) o ho
      rw [e1]
      have e2 := ht i0 (by simp) oi ho0
      cases hd0 : oi.dst with
      | none => rfl
      | some d0 => simp only [updO, upd]; rw [if_neg]; rintro rfl; exact e2 hd0

theorem vt_sound {tab : List (Nat × Oper × Nat)} (htab : TabOk ops tab) {hf : Oper → Bool} (hsm : ∀ (i : Nat) (o : Oper), ops[i]? = some o → smallO n ops o = true)
    (hlt : ∀ (j : Nat) (o : Oper), ops[j]? = some o → ∀ e ∈ o.after, Region.binds .any e = true → e.on < j) {ds : List ADef} (t : FT) :
    (∀ (fuel : Nat) (done rem L : List Nat) (listed : Array Bool) (f fa : Fr) (H : List Blk), t.top = true → planT pu hf ops tab t done rem = true → SInv P pu hf ops done rem L listed f fa H → rem.length + L.length ≤ fuel → VT P pu hf ops Q ds t f H → AA P pu ops Q ds fuel listed fa H) ∧
    (∀ (fuel : Nat) (done rem L : List Nat) (listed : Array Bool) (f fa : Fr) (H : List Blk) (x : Nat), x ∈ t.heads → planT pu hf ops tab t done rem = true → SInv P pu hf ops done rem L listed f fa H → rem.length + L.length ≤ fuel + 1 → VT P pu hf ops Q ds t f H → x ∈ Region.ready .any ops listed →
      ∃ o, ops[x]? = some o ∧ pu x = false ∧ StepB P ops o fa H ds Q (fun f' H' => AA P pu ops Q ds fuel (listed.setIfInBounds x true) f' H')) := by
  induction t with
  | lin p => exact ⟨fun fuel done rem L listed f fa H _ hc hi hfu hv => vx_sound htab hsm hlt p fuel done rem L listed f fa H hc hi hfu hv, fun fuel done rem L listed f fa H x hx => (by cases hx)⟩
  | none => exact ⟨fun fuel done rem L listed f fa H ht => (by cases ht), fun fuel done rem L listed f fa H x hx => (by cases hx)⟩
  | alt i0 lt t more iht ihm =>
    refine ⟨fun fuel done rem L listed f fa H ht => (by cases ht), fun fuel done rem L listed f fa H x hx hc hi hfu hv hir => ?_⟩
    simp only [planT, Bool.and_eq_true, Bool.not_eq_true'] at hc
    obtain ⟨⟨⟨⟨⟨c1, c2⟩, c3⟩, c4⟩, c5⟩, c6⟩ := hc
    obtain ⟨v1, v2⟩ := hv
    rcases List.mem_cons.1 hx with rfl | hx
    · cases ho : ops[x]? with
      | none => rw [ho] at c3; cases c3
      | some o =>
        rw [ho] at c3 v1
        exact ⟨o, rfl, c2, vx_impK htab hsm hlt hi hir ho c2 c1 c3 (fun L' listed' f' fa' H' hi' hl' hk' => iht.1 fuel _ _ L' listed' f' fa' H' c4 c5 hi' hl' hk') hfu v1⟩
    · exact ihm.2 fuel done rem L listed f fa H x hx c6 hi hfu v2 hir
  | fork pre ats iha =>
    refine ⟨fun fuel done rem L listed f fa H _ hc hi hfu hv => ?_, fun fuel done rem L listed f fa H x hx => (by cases hx)⟩
    refine vp_sound htab hsm hlt ?_ pre fuel done rem L listed f fa H hc hi hfu hv
    clear hc hi hfu hv
    intro fuel
    induction fuel with
    | zero =>
      intro done rem L listed f fa H hc hi hfu hv
      exfalso
      simp only [Bool.and_eq_true, List.all_eq_true, Bool.not_eq_true', List.isEmpty_eq_false_iff_exists_mem] at hc
      obtain ⟨⟨⟨_, h2⟩, x, h3⟩, _⟩ := hc
      have := List.length_pos_of_mem (List.contains_iff_mem.1 (h2 x h3))
      omega
    | succ fuel ih =>
      intro done rem L listed f fa H hc hi hfu hv
      have hc0 := hc
      simp only [Bool.and_eq_true, List.all_eq_true, Bool.not_eq_true', List.isEmpty_eq_false_iff_exists_mem, List.any_eq_true, Bool.or_eq_true, beq_iff_eq] at hc
      obtain ⟨⟨⟨hall, h2⟩, y, h3⟩, h4⟩ := hc
      refine ⟨fun hn => ?_, fun x hir => ?_⟩
      · obtain ⟨rfl, _⟩ := sinv_ready hsm hlt hi hn
        cases List.contains_iff_mem.1 (h2 y h3)
      · obtain ⟨m1, o, m2, m3⟩ := mem_ready.1 hir
        have hil := (Array.getElem?_eq_some_iff.1 m2).1
        rw [getD_tf (by rw [hi.size]; exact hil)] at m1
        rcases (hi.un x hil).1 m1 with hm | hm
        · obtain ⟨h, hh, hx⟩ := hall x hm
          rcases hx with rfl | hx
          · obtain ⟨o', g1, g2, g3⟩ := iha.2 fuel done rem L listed f fa H x hh h4 hi hfu hv hir
            refine ⟨o', g1, ?_⟩
            rw [if_neg (by simp [g2])]
            exact g3
          · exfalso
            have hhr := List.contains_iff_mem.1 (h2 h hh)
            have := reach_listed hi.closed (maskOf_spec htab hx) fun o' ho' e he hb => m3 e (by rw [m2] at ho'; cases ho'; exact he) hb
            have h5 := (hi.un h (hi.remlt h hhr)).2 (.inl hhr)
            rw [this] at h5; cases h5
        · obtain ⟨o', r, ho, hpu', hst, hinv⟩ := sinv_late hsm hlt hi hir hm
          refine ⟨o', ho, ?_⟩
          rw [if_pos hpu']
          have hlen := List.length_erase_of_mem hm
          have hpos := List.length_pos_of_mem hm
          exact ⟨r, hst, ih done rem (L.erase x) _ f _ H hc0 hinv (by omega) hv⟩
variable {hn : Nat → Bool}
/-- What is to be shown. -/
def vcT (P : Program) (hn : Nat → Bool) (ops : Array Oper) (Q : AQ) (ds : List ADef) : FT → Fr → List Blk → Prop
  | .lin p, f, H => vcX P hn ops Q ds p f H
  | .fork pre ats, f, H => vcX P hn ops (fun x f' H' ds' => match x with | .normal => vcT P hn ops Q ds ats f' H' | x => Q x f' H' ds') ds (pre.map fun i => (i, [])) f H
  | .alt i lt t more, f, H => vcL P hn true ops (opsAt ops [i]) (thenQ (fun f' H' _ => lateV P hn ops f' H' (opsAt ops lt) ∧ vcT P hn ops Q ds t f' H') Q) f H ds ∧ vcT P hn ops Q ds more f H
  | .none, _, _ => True
def FT.lates : FT → OPlan
  | .lin p => p
  | .fork _ ats => ats.lates
  | .alt i lt t more => (i, lt) :: (t.lates ++ more.lates)
  | .none => []
theorem vp_of_vcX {ops : Array Oper} {Q : AQ} {ds : List ADef} (hnd : ops.all noDefer = true) {tab : List (Nat × Oper × Nat)} {kb : List Nat → List Nat → Bool} {kv kv' : Fr → List Blk → Prop} :
    ∀ (p done rem : List Nat) (f : Fr) (H : List Blk), planP (puOf (pureOp hn) ops) ops tab kb done rem p = true → (∀ done rem f H, kb done rem = true → kv' f H → kv f H) → vcX P hn ops (fun x f' H' ds' => match x with | .normal => kv' f' H' | x => Q x f' H' ds') ds (p.map fun i => (i, [])) f H → VP P hfreeOp ops kv p f H
  | [], done, rem, f, H, hc, hk, h => hk done rem f H hc h
  | i :: p, done, rem, f, H, hc, hk, h => by
    simp only [planP, Bool.and_eq_true] at hc
    obtain ⟨⟨⟨hrd, hpu⟩, hop⟩, hrest⟩ := hc
    simp only [List.map_cons, vcX] at h
    simp only [VP]
    cases ho : ops[i]? with
    | none => rw [ho] at hop; cases hop
    | some o =>
      have hndo : noDefer o = true := Array.all_eq_true_iff_forall_mem.1 hnd _ (Array.mem_of_getElem? ho)
      have hone : opsAt ops [i] = [o] := by simp [opsAt, ho]
      rw [hone] at h
      obtain ⟨r, h1, h2, h3⟩ := one_det hndo (pureOf_pu ho hpu) h
      exact ⟨r, h1, h2, vp_of_vcX hnd p _ _ _ _ hrest hk h3.2⟩
theorem vt_of_vcT {ops : Array Oper} {Q : AQ} {ds : List ADef} (hnd : ops.all noDefer = true) {tab : List (Nat × Oper × Nat)} (t : FT) : ∀ (done rem : List Nat) (f : Fr) (H : List Blk), planT (puOf (pureOp hn) ops) hfreeOp ops tab t done rem = true →
    (∀ x ∈ t.lates, ∀ j ∈ x.2, ∀ o, ops[j]? = some o → puOf (pureOp hn) ops j = true) → vcT P hn ops Q ds t f H → VT P (puOf (pureOp hn) ops) hfreeOp ops Q ds t f H := by
  induction t with
  | lin p => exact fun done rem f H hc hl h => vx_of_vcX hnd p _ _ _ _ hc hl h
  | none => exact fun done rem f H hc hl h => trivial
  | fork pre ats iha =>
    intro done rem f H hc hl h
    refine vp_of_vcX hnd pre done rem f H hc (fun done rem f H hb hv => ?_) h
    simp only [Bool.and_eq_true] at hb
    exact iha done rem f H hb.2 hl hv
  | alt i lt t more iht ihm =>
    intro done rem f H hc hl h
    simp only [planT, Bool.and_eq_true, Bool.not_eq_true'] at hc
    obtain ⟨⟨⟨⟨⟨c1, c2⟩, c3⟩, c4⟩, c5⟩, c6⟩ := hc
    obtain ⟨v1, v2⟩ := h
    refine ⟨?_, ihm done rem f H c6 (fun x hx => hl x (by simp [FT.lates, hx])) v2⟩
    cases ho : ops[i]? with
    | none => rw [ho] at c3; cases c3
    | some o =>
      have hndo : noDefer o = true := Array.all_eq_true_iff_forall_mem.1 hnd _ (Array.mem_of_getElem? ho)
      have hone : opsAt ops [i] = [o] := by simp [opsAt, ho]
      rw [hone] at v1
      refine stepB_mono (fun f' H' hk => ⟨fun j hj oj hoj => ?_, iht _ _ _ _ c5 (fun x hx => hl x (by simp [FT.lates, hx])) hk.2⟩) (one_bar (Q := Q) (Q' := thenQ (fun f' H' _ => lateV P hn ops f' H' (opsAt ops lt) ∧ vcT P hn ops Q ds t f' H') Q) (fun _ _ _ _ h => h) hndo v1)
      have hpj := hl (i, lt) (by simp [FT.lates]) j hj oj hoj
      have hndj : noDefer oj = true := Array.all_eq_true_iff_forall_mem.1 hnd _ (Array.mem_of_getElem? hoj)
      have hv := lateV_mem hk.1 oj (by simp only [opsAt, List.mem_filterMap]; exact ⟨j, hj, hoj⟩)
      obtain ⟨r, h1, _, h3⟩ := one_det hndj (pureOf_pu hoj hpj) hv
      refine ⟨r, h1, fun d hd => ?_⟩
      simp only [lateQ, hd] at h3
      have := h3.2
      simpa [updO, upd] using this.symm
def treeB (hn : Nat → Bool) (n : Nat) (ops : Array Oper) (t : FT) : Bool :=
  ops.toList.all (smallO n ops) && t.top && planT (puOf (pureOp hn) ops) hfreeOp ops (mkTab ops [] (List.range ops.size)) t [] (List.range ops.size) && lateB (puOf (pureOp hn) ops) ops t.lates &&
  ((List.range ops.size).all fun j => match ops[j]? with
    | none => true
    | some o => o.after.toList.all fun e => !Region.binds .any e || decide (e.on < j)) && ops.all noDefer
def vcTW (P : Program) (hn : Nat → Bool) (t : FT) (ops : Array Oper) (Q : AQ) (f : Fr) (H : List Blk) (ds : List ADef) (_ : Wit (hn, ops, Q, f, H, ds)) : Prop := vcT P hn ops Q ds t f H
def treeQ (P : Program) (hn : Nat → Bool) (ops : Array Oper) (Q : AQ) (ds : List ADef) (ats : FT) : AQ := fun x f' H' ds' => match x with | .normal => vcT P hn ops Q ds ats f' H' | x => Q x f' H' ds'
theorem awp_region_tree (hn : Nat → Bool) (t : FT) {id : Nat} {ops : Array Oper} {Q : AQ} {f : Fr} {H : List Blk} {ds : List ADef} (hs : (treeB hn n ops t && P.follows .mixedOrders) = true)
    (h : vcTW P hn t ops Q f H ds (wit _)) : AWP P n (.region id ops true) Q f H ds := by
  simp only [treeB, Bool.and_eq_true, List.all_eq_true] at hs
  obtain ⟨⟨⟨⟨⟨⟨hs1, ht⟩, hs2⟩, hs3⟩, hs5⟩, hs6⟩, hm⟩ := hs
  have hsm : ∀ (i : Nat) (o : Oper), ops[i]? = some o → smallO n ops o = true := fun i o ho => hs1 o (by simpa using Array.mem_of_getElem? ho)
  have lt : ∀ p : OPlan, lateB (puOf (pureOp hn) ops) ops p = true → ∀ x ∈ p, ∀ j ∈ x.2, ∀ o, ops[j]? = some o → puOf (pureOp hn) ops j = true := fun p hp x hx j hj o ho => by
    simp only [lateB, List.all_eq_true] at hp
    have := hp x hx j hj
    rw [ho] at this; exact this
  have hv := vt_of_vcT hs6 t [] (List.range ops.size) f H hs2 (lt _ hs3) h
  intro ro hro B w0 cx0 cx a h1 h2 h3 h4 h5
  subst h3
  refine wpIn_region_any hm ?_
  refine aa_sound (P := P) (pu := puOf (pureOp hn) ops) (Q := Q) (B := B) (w0 := w0) (cx0 := cx0) (ro := ro) (fun i o ho hs => by have := hro hs; simp only [noDefC, List.all_eq_true] at this; exact this o (by simpa using Array.mem_of_getElem? ho)) hsm ops.size (Array.replicate ops.size false) f cx.drew a ?_ (hrel_drew h1) (h2.trans (le_drew cx)) (h4.mono (le_drew cx)) (h5.mono (le_drew cx))
  refine (vt_sound (hf := hfreeOp) (mkTab_ok (List.range ops.size) [] (fun d hd => (by cases hd))) hsm (fun j o ho e he hb => ?_) t).1 ops.size [] (List.range ops.size) [] _ f f cx.H ht hs2 ⟨by simp, fun i hi => ?_, fun i hi => by simpa using hi, fun i o ho hl => ?_, fun i hi => by simp [hi], fun i o ho hn => ?_, List.nodup_nil, List.nodup_range, fun j hj => (by cases hj), fun t _ => rfl⟩ (by simp) hv
  · have := hs5 j (List.mem_range.2 (Array.getElem?_eq_some_iff.1 ho).1)
    rw [ho] at this
    simp only [List.all_eq_true] at this
    have := this e (by simpa using he)
    simpa [hb] using this
  · simp [Array.getD_eq_getD_getElem?, Array.getElem?_replicate, hi]
  · exfalso
    have hlt : i < ops.size := (Array.getElem?_eq_some_iff.1 ho).1
    simp [Array.getD_eq_getD_getElem?, Array.getElem?_replicate, hlt] at hl
  · exfalso
    exact hn (by simpa using (Array.getElem?_eq_some_iff.1 ho).1)
@[simp ↓] theorem vcTW_lin (l : List Oper) (Q : AQ) (ds : List ADef) (p : OPlan) (f : Fr) (H : List Blk) (w : Wit (hn, l.toArray, Q, f, H, ds)) : vcTW P hn (.lin p) l.toArray Q f H ds w = vcXW P hn p l.toArray Q f H ds (wit _) := (rfl)
@[simp ↓] theorem vcTW_fork (l : List Oper) (Q : AQ) (ds : List ADef) (pre : List Nat) (ats : FT) (f : Fr) (H : List Blk) (w : Wit (hn, l.toArray, Q, f, H, ds)) : vcTW P hn (.fork pre ats) l.toArray Q f H ds w = vcXW P hn (pre.map fun i => (i, [])) l.toArray (treeQ P hn l.toArray Q ds ats) f H ds (wit _) := (rfl)
@[simp ↓] theorem vcTW_none (l : List Oper) (Q : AQ) (ds : List ADef) (f : Fr) (H : List Blk) (w : Wit (hn, l.toArray, Q, f, H, ds)) : vcTW P hn .none l.toArray Q f H ds w = True := (rfl)
@[simp ↓] theorem vcTW_alt (l : List Oper) (Q : AQ) (ds : List ADef) (i : Nat) (lt : List Nat) (t more : FT) (f : Fr) (H : List Blk) (w : Wit (hn, l.toArray, Q, f, H, ds)) : vcTW P hn (.alt i lt t more) l.toArray Q f H ds w =
    (vcDW P hn (opsL l [i]) l.toArray (thenQ (fun f' H' _ => lateW P hn (opsL l lt) l.toArray f' H' (wit _) ∧ vcTW P hn t l.toArray Q f' H' ds (wit _)) Q) f H ds (wit _) ∧ vcTW P hn more l.toArray Q f H ds (wit _)) := by
  simp only [vcTW, vcT, vcDW, lateW, opsAt, opsL_eq, List.getElem?_toArray]
@[simp ↓] theorem QW_treeN (l : List Oper) (Q : AQ) (ds0 : List ADef) (ats : FT) (f : Fr) (H : List Blk) (ds : List ADef) (w : Wit (treeQ P hn l.toArray Q ds0 ats, AX.normal, f, H, ds)) : QW (treeQ P hn l.toArray Q ds0 ats) .normal f H ds w = vcTW P hn ats l.toArray Q f H ds0 (wit _) := (rfl)
@[simp ↓] theorem QW_treeP (l : List Oper) (Q : AQ) (ds0 : List ADef) (ats : FT) (x : AV) (f : Fr) (H : List Blk) (ds : List ADef) (w : Wit (treeQ P hn l.toArray Q ds0 ats, AX.pan x, f, H, ds)) : QW (treeQ P hn l.toArray Q ds0 ats) (.pan x) f H ds w = QW Q (.pan x) f H ds (wit _) := (rfl)
end
end Go.Mu
namespace Go.Proofs
open Go.Mu
/-- The orders in which a round's branch may be made. -/
def loopT : FT := .fork [0, 1, 2, 4, 5]
  (.alt 3 [4, 5] (.fork [] (.alt 6 [1, 2, 4, 5] (.lin [(7, []), (8, [1, 2, 4, 5]), (9, [])]) (.alt 8 [1, 2, 4, 5] (.lin [(6, [1, 2, 4, 5]), (7, []), (9, [])]) .none)))
  (.alt 6 [1, 2, 4, 5] (.fork [] (.alt 3 [4, 5] (.lin [(7, []), (8, [1, 2, 4, 5]), (9, [])]) (.alt 8 [1, 2, 4, 5] (.lin [(3, [4, 5]), (7, []), (9, [])]) .none)))
  (.alt 8 [1, 2, 4, 5] (.fork [] (.alt 3 [4, 5] (.lin [(6, [1, 2, 4, 5]), (7, []), (9, [])]) (.alt 6 [1, 2, 4, 5] (.lin [(3, [4, 5]), (7, []), (9, [])]) .none))) .none)))
abbrev zB (its : List Int) (tk : Bool) (hb : Nat) (v : AV) : Blk := .box 67 [I 2, U.sl its, Bo tk, ownS hb [[v]]]
/-- A round's branch, with its list, in either order. -/
def LoopS (M : Int → List Blk → List Blk) (k : Nat) (its : List Int) (tk : Bool) (n : Int) (x : AV) (H' : List Blk) : Prop :=
  ∃ R jz jb, H' = M n R ∧ R[jz]? = some (zB its tk (k + jb) nilS) ∧ R[jb]? = some (ownB 58 1 [[nilS]]) ∧ jz ≠ jb ∧ x = .bp (k + jz) 0
/-- What is within it. -/
def LoopB (M : Int → List Blk → List Blk) (R : List Blk) (jb : Nat) (n2 : Int) (P : List Lk → Int → Prop) (H' : List Blk) : Prop :=
  ∃ body bv n3, H' = M n3 (R.set jb (.row 58 1 [[bv]])) ∧ Weak bv (Lk.sl body) ∧ AV.frzB bv = true ∧ n2 ≤ n3 ∧ n3 ≤ 1000000 ∧ P body n3
section
variable {rec : Rec} {st : Int} {br : Bool} {m : Nat} {n : Int} {t : Tm} {x : Lk} {deep : Nat} {H : List Blk} {c : Nat}
theorem loop_ok' (hr : RecOk rec st br m) (hm : x.count ≤ m) (hin : NodeIn t x deep n) (hc : H[c]? = some (rwB st br n)) :
    ACalls Try.prog 142 [.bp c 0, .agg t.cells, .agg x.cells, I deep] H (RwR st br c H Lk.sl (fun _ => []) (loopM rec st t deep x n)) := by
  refine acalls_under fun hu _ => acalls_tidy (acalls_weakE (acalls_of_awp Try.func142 rfl (by kernel_rfl) ?_))
  obtain ⟨hit, hix, hid, h0, h1⟩ := hin
  have hct := Tm.count_eq t
  have hcx := Lk.count_eq x
  have hts := tmss_len t.subs
  have hxs := lkss_len x.subs
  have hpk := pk_len t.lines
  have hcl := lt_of_get hc
  have hL := fun L => get_app_old hc L
  have hs := fun L X => set_app_lt (H := H) hcl X L
  have hg := fun X L => get_set_app (H := H) hcl X L
  have hss := fun X Y L => set_set_app (H := H) hcl X Y L
  obtain ⟨E, hE⟩ : ∃ E, E = loopM rec st t deep x n := ⟨_, rfl⟩
  rw [← hE]
  unfold loopM at hE
  have finV := fun out m L v => rw_finV (st := st) (br := br) (c := c) (E := E) (H := H) out m L v
  have finP := fun e m L => rw_finP (st := st) (br := br) (c := c) (E := E) (H := H) e m L
  have finP0 := fun e L => rw_finP0 (E := E) hc e L
  have c1 := fun H => of_ok x 3 (by omega) H
  have c3 := fun H => sub_ok t 0 (by omega) (by omega) H
  have c4 := fun H h => add2_ok st br n 1 h0 h1 (by omega) (by omega) H c h
  simp only [Lk.cells_eq, Tm.cells_eq] at c1 c3 ⊢
  obtain ⟨bT, hbT⟩ : ∃ bT, bT = Blk.box 76 [I t.kind, Pk.sls t.lines, Bo t.taken, Tm.sls t.subs] := ⟨_, rfl⟩
  obtain ⟨bX, hbX⟩ : ∃ bX, bX = Blk.box 67 [I x.kind, U.sl x.items, Bo x.taken, Lk.sls x.subs] := ⟨_, rfl⟩
  refine awp_cut (fun _ => false) (fun _ => none) (fun f H' => H' = H ++ [bT, bX] ∧ f 0 = .bp c 0 ∧ f 3 = I deep ∧ f 5 = .bp H.length 0 ∧ f 6 = .bp (H.length + 1) 0) (by kernel_rfl) ?_ ?_
  · rw [hbT, hbX]
    simp -dsimp
  rintro g _ ⟨rfl, g0, g3, g5, g6⟩
  refine awp_cut (fun _ => false) (fun _ => none) (fun f H' => H' = H.set c (rwB st br (n + 1)) ++ [bT, bX] ∧ f 0 = .bp c 0 ∧ f 3 = I deep ∧ f 5 = .bp H.length 0 ∧ f 6 = .bp (H.length + 1) 0 ∧ addR 1 n = .ok () (n + 1)) (by kernel_rfl) ?_ ?_
  · rw [hbT, hbX]
    simp -dsimp [g0, g3, g5, g6, hL]
    refine rwW (c4 _ (hL _)) (fun u n1 hA h3 h4 => ?_) (fun e n1 hA => ?_)
    · obtain ⟨rfl, _⟩ := addR_ok hA
      rw [hs]
      simp -dsimp [g0, g3, g5, g6]
      exact hA
    · rw [hA] at hE
      rw [hs]
      simp -dsimp
      exact finP _ _ _ hE
  clear g g0 g3 g5 g6
  rintro g _ ⟨rfl, g0, g3, g5, g6, hA⟩
  have hn1 := (addR_ok hA).2
  rw [hA, Rw.bind_ok] at hE
  refine awp_cut (fun _ => false) (fun _ => none) (fun f H' => H' = H.set c (rwB st br (n + 1)) ++ [bT, bX] ∧ f 0 = .bp c 0 ∧ f 3 = I deep ∧ f 5 = .bp H.length 0 ∧ f 6 = .bp (H.length + 1) 0 ∧ f 9 = nilS) (by kernel_rfl) ?_ ?_
  · simp -dsimp [g0, g3, g5, g6]
  clear g g0 g3 g5 g6
  rintro g _ ⟨rfl, g0, g3, g5, g6, g9⟩
  refine awp_spare 1 ?_
  refine awp_cutA (fun f H' => ∃ F, OutJ H c st br F bT bX (fun n => .ok [] n) (f 9) H' ∧ f 5 = .bp H.length 0 ∧ E = F.bind fun out n2 => Rw.get (t.subs[0]?) fun _ => .ok [.mk 3 [] false [out]] n2) ?_ ?_
  rotate_left
  · clear g g0 g3 g5 g6 g9 hE
    rintro g _ ⟨F, ⟨out, n', L, rfl, a0, a1, a2, g9, a3⟩, g5, hE⟩
    simp only [Rw.pre_ok, List.append_nil] at a3
    rw [← a3, Rw.bind_ok] at hE
    have hlen2 : (H.set c (rwB st br n')).length = H.length := by simp
    have hun2 : underH (H.set c (rwB st br n')).length (H.set c (rwB st br n')) = true := by rw [hlen2]; exact underH_set hu rfl
    refine awp_giveO hun2 2 4 67 (out.map Lk.cells) rfl (lks_frzB out) ?_
    refine awp_weak (f' := fun s => if s = 9 then Lk.sl out else (g s).frzS ((H.set c (rwB st br n')).length + 2) 4 (out.map Lk.cells)) (fun s => ?_) ?_
    · show Weak _ (if s = 9 then _ else _)
      split
      · rename_i h; subst h
        rw [g9, hlen2, frzS_own]; exact Weak.gvS _ _
      · exact .refl _
    have hg5 : (fun s => if s = 9 then Lk.sl out else (g s).frzS ((H.set c (rwB st br n')).length + 2) 4 (out.map Lk.cells)) 5 = .bp H.length 0 := by
      show (g 5).frzS _ _ _ = _
      rw [g5]; simp
    have hg9 : (fun s => if s = 9 then Lk.sl out else (g s).frzS ((H.set c (rwB st br n')).length + 2) 4 (out.map Lk.cells)) 9 = Lk.sl out := rfl
    generalize (fun s => if s = 9 then Lk.sl out else (g s).frzS ((H.set c (rwB st br n')).length + 2) 4 (out.map Lk.cells)) = g' at hg5 hg9 ⊢
    clear g9 g5
    rw [hlen2, hbT, hbX]
    simp only [List.map_cons, List.set_cons_zero, List.set_cons_succ, blkS_box, List.map_nil, frzS_own, frzS_v, frzS_vs]
    refine awp_all (fun _ => false) (fun _ => none) (by kernel_rfl) ?_
    simp -dsimp [hg5, hg9]
    refine getW (c3 _) (fun hb => ?_) (fun hb => ?_)
    · have hi2 : 0 < t.subs.length := by simpa using hb
      have hsu : t.subs[0]? = some t.subs[0] := List.getElem?_eq_getElem hi2
      rw [hsu, Rw.get_some] at hE
      simp -dsimp [hg5, hg9]
      refine finV [.mk 3 [] false [out]] n' _ _ ?_ hE a0 a1
      refine Weak.vsR (.cons ?_ .nil)
      rw [Lk.cells_eq]
      exact .cons (.refl _) (.cons (.nil 1) (.cons (.refl _) (.cons (.refl _) .nil)))
    · have hi : ¬ 0 < t.subs.length := by simpa using hb
      have hsu : t.subs[0]? = none := List.getElem?_eq_none (by omega)
      rw [hsu] at hE
      simp -dsimp
      exact finP _ _ _ hE
  refine awp_cut (fun _ => false) (fun _ => none) (fun f H' => H' = H.set c (rwB st br (n + 1)) ++ [bT, bX] ++ [Blk.pend] ∧ f 0 = .bp c 0 ∧ f 3 = I deep ∧ f 5 = .bp H.length 0 ∧ f 9 = nilS ∧ f 19 = Lk.sl ((ofO x 3).getD []) ∧ f 20 = I ((ofO x 3).getD []).length ∧ f 21 = I 0 ∧ (ofO x 3).isSome = true) (by kernel_rfl) ?_ ?_
  · have hgx : ∀ X Y Z L, (H.set c X ++ Y :: Z :: L)[H.length + 1]? = some Z := fun X Y Z L => get_next (H := H) (c := c) (L := Y :: Z :: L) X 1
    rw [hbT, hbX]
    simp -dsimp [g0, g3, g5, g6, g9, hgx]
    refine getW (c1 _) (fun hb => ?_) (fun hb => ?_)
    · simp -dsimp [g0, g3, g5, g6, g9]
      exact hb
    · rw [Option.isSome_eq_false_iff, Option.isNone_iff_eq_none] at hb
      rw [hb] at hE
      simp -dsimp
      exact finP _ _ _ hE
  clear g g0 g3 g5 g6 g9
  rintro g _ ⟨rfl, g0, g3, g5, g9, g19, g20, g21, hb⟩
  obtain ⟨l, hl⟩ := Option.isSome_iff_exists.1 hb
  have hlc := ofO_count hl
  rw [hl, Option.getD_some] at g19 g20
  rw [hl, Rw.get_some] at hE
  have hll := lks_len l
  obtain ⟨F, hF⟩ : ∃ F, F = loopGo rec st t deep l (n + 1) := ⟨_, rfl⟩
  rw [← hF] at hE
  have finPF : ∀ e m L, F = .err e → WeakE (Tidy H (RwR st br c H Lk.sl (fun _ => []) E)) (.pan (refL e)) (H.set c (rwB st br m) ++ L) := fun e m L h => finP e m L (by rw [hE, h]; rfl)
  refine awp_block ?_
  refine awp_loopI (fun (i : Nat) f H' => OutJ H c st br F bT bX (loopGo rec st t deep (l.drop i)) (f 9) H' ∧ f 0 = .bp c 0 ∧ f 3 = I deep ∧ f 5 = .bp H.length 0 ∧ f 19 = Lk.sl l ∧ f 20 = I l.length ∧ f 21 = I i ∧ i ≤ l.length) (fun i => l.length - i) 0
    ⟨⟨[], n + 1, [], by simp [ownB], by omega, by omega, by simp; omega, by rw [g9]; exact (ownS_nil _).symm, by simp [hF]⟩, g0, g3, g5, g19, g20, g21, by omega⟩ ?_
  clear g g0 g3 g5 g9 g19 g20 g21
  rintro i g _ ⟨⟨out, n', L, rfl, a0, a1, a2, g9, hrest⟩, g0, g3, g5, g19, g20, g21, hi⟩
  refine awp_cut (fun _ => false) (fun _ => none) (fun f H' => H' = H.set c (rwB st br n') ++ bT :: bX :: outB out :: L ∧ f 0 = .bp c 0 ∧ f 3 = I deep ∧ f 5 = .bp H.length 0 ∧ f 9 = outS (H.length + 2) out ∧ f 19 = Lk.sl l ∧ f 20 = I l.length ∧ f 21 = I i ∧ f 22 = Bo (decide ((i : Int) < l.length))) (by kernel_rfl) ?_ ?_
  · simp -dsimp [g0, g3, g5, g9, g19, g20, g21]
  clear g g0 g3 g5 g9 g19 g20 g21
  rintro g _ ⟨rfl, g0, g3, g5, g9, g19, g20, g21, g22⟩
  refine awp_cut (fun _ => false) (fun _ => none) (fun f H' => H' = H.set c (rwB st br n') ++ bT :: bX :: outB out :: L ∧ f 0 = .bp c 0 ∧ f 3 = I deep ∧ f 5 = .bp H.length 0 ∧ f 9 = outS (H.length + 2) out ∧ f 19 = Lk.sl l ∧ f 20 = I l.length ∧ f 21 = I i ∧ i < l.length) (by kernel_rfl) ?_ ?_
  · simp -dsimp [g22]
    refine condVW_introD (fun hlt => ?_) (fun hlt => ?_)
    · simp -dsimp [g0, g3, g5, g9, g19, g20, g21]
      omega
    · rw [drop_end (by omega), loopGo] at hrest
      simp -dsimp [g5, g9]
      exact ⟨F, ⟨out, n', L, rfl, a0, a1, a2, rfl, hrest⟩, hE⟩
  clear g g0 g3 g5 g9 g19 g20 g21 g22
  rintro g _ ⟨rfl, g0, g3, g5, g9, g19, g20, g21, hlt⟩
  rw [drop_cons hlt, loopGo] at hrest
  have hgx := lks_get hlt
  have hlx : l[i]? = some l[i] := List.getElem?_eq_getElem hlt
  obtain ⟨y, hy⟩ : ∃ y, y = l[i] := ⟨_, rfl⟩
  rw [← hy] at hrest hgx hlx
  clear hy
  have hyc := Lk.count_eq y
  have hys := lkss_len y.subs
  refine awp_cutA (fun f H' => OutJ H c st br F bT bX (loopGo rec st t deep (l.drop (i + 1))) (f 9) H' ∧ f 0 = .bp c 0 ∧ f 3 = I deep ∧ f 5 = .bp H.length 0 ∧ f 19 = Lk.sl l ∧ f 20 = I l.length ∧ f 21 = I i) ?_ ?_
  rotate_left
  · clear g g0 g3 g5 g9 g19 g20 g21
    rintro g H' ⟨ho, g0, g3, g5, g19, g20, g21⟩
    replace ho := Hid.mk ho
    refine awp_all (fun _ => false) (fun _ => none) (by kernel_rfl) ?_
    simp -dsimp [g0, g3, g5, g19, g20, g21]
    exact ⟨i + 1, by omega, ho.out, wrapS (by omega), by omega⟩
  refine awp_block ?_
  obtain ⟨yB, hyB⟩ : ∃ yB, yB = Blk.box 67 [I y.kind, U.sl y.items, Bo y.taken, Lk.sls y.subs] := ⟨_, rfl⟩
  obtain ⟨hy, hhy⟩ : ∃ hy, hy = H.length + (L.length + 1 + 1 + 1) := ⟨_, rfl⟩
  refine awp_cut (fun _ => false) (fun _ => none) (fun f H' => H' = H.set c (rwB st br n') ++ bT :: bX :: outB out :: (L ++ [yB]) ∧ f 0 = .bp c 0 ∧ f 3 = I deep ∧ f 5 = .bp H.length 0 ∧ f 9 = outS (H.length + 2) out ∧ f 19 = Lk.sl l ∧ f 20 = I l.length ∧ f 21 = I i ∧ f 11 = .bp hy 0) (by kernel_rfl) ?_ ?_
  · rw [hyB, hhy]
    simp -dsimp [g0, g3, g5, g9, g19, g20, g21, hlx]
  clear g g0 g3 g5 g9 g19 g20 g21
  rintro g _ ⟨rfl, g0, g3, g5, g9, g19, g20, g21, g11⟩
  have hgy : ∀ X (A B C : Blk) R, (H.set c X ++ A :: B :: C :: (L ++ yB :: R))[hy]? = some yB := fun X A B C R => by
    rw [hhy, get_next (H := H) (c := c)]
    simp
  replace hgy : ∀ X (A B C : Blk) R, (H.set c X ++ A :: B :: C :: (L ++ yB :: R))[hy]? = some (.box 67 [I y.kind, U.sl y.items, Bo y.taken, Lk.sls y.subs]) := fun X A B C R => by rw [hgy, hyB]
  have c5 := fun H => of_ok y 2 (by omega) H
  simp only [Lk.cells_eq] at c5
  -- the branch's list
  refine awp_cut (fun _ => false) (fun _ => none) (fun f H' => H' = H.set c (rwB st br n') ++ bT :: bX :: outB out :: (L ++ [yB]) ∧ f 0 = .bp c 0 ∧ f 3 = I deep ∧ f 5 = .bp H.length 0 ∧ f 9 = outS (H.length + 2) out ∧ f 19 = Lk.sl l ∧ f 20 = I l.length ∧ f 21 = I i ∧ f 11 = .bp hy 0 ∧ f 12 = Lk.sl ((ofO y 2).getD []) ∧ (ofO y 2).isSome = true) (by kernel_rfl) ?_ ?_
  · simp -dsimp [g0, g3, g5, g9, g19, g20, g21, g11, hgy]
    refine getW (c5 _) (fun hb => ?_) (fun hb => ?_)
    · simp -dsimp [g0, g3, g5, g9, g19, g20, g21, g11]
      exact hb
    · rw [Option.isSome_eq_false_iff, Option.isNone_iff_eq_none] at hb
      rw [hb] at hrest
      simp -dsimp
      exact finPF _ _ _ hrest.symm
  clear g g0 g3 g5 g9 g19 g20 g21 g11
  rintro g _ ⟨rfl, g0, g3, g5, g9, g19, g20, g21, g11, g12, hb2⟩
  obtain ⟨bl, hbl⟩ := Option.isSome_iff_exists.1 hb2
  have hbc := ofO_count hbl
  rw [hbl, Option.getD_some] at g12
  rw [hbl, Rw.get_some] at hrest
  have c2 := fun H h => lines_ok st br n' t.lines y.items (by omega) (by omega) a0 a1 H c h
  -- its lines
  obtain ⟨q0, hq0⟩ : ∃ q : Nat, q = H.length + (L.length + 1 + 1 + 1 + 1) := ⟨_, rfl⟩
  refine awp_cut (fun d => d == 34) (fun _ => none) (fun f H' => ∃ a n1, H' = H.set c (rwB st br n1) ++ bT :: bX :: outB (out ++ a) :: (L ++ [yB, outB a]) ∧ linesM st y.items t.lines n' = .ok a n1 ∧ 0 ≤ n1 ∧ n1 ≤ 1000000 ∧ f 0 = .bp c 0 ∧ f 3 = I deep ∧ f 5 = .bp H.length 0 ∧ f 9 = outS (H.length + 2) (out ++ a) ∧ f 19 = Lk.sl l ∧ f 20 = I l.length ∧ f 21 = I i ∧ f 11 = .bp hy 0 ∧ f 12 = Lk.sl bl) (by kernel_rfl) ?_ ?_
  · rw [hbT]
    simp -dsimp [g0, g3, g5, g9, g19, g20, g21, g11, g12, hgy]
    refine rwW (c2 _ (hg _ _)) (fun a n1 hA h3 h4 => ?_) (fun e n1 hA => ?_)
    rotate_left
    · rw [hA] at hrest
      rw [hss]
      simp -dsimp
      exact finPF _ _ _ hrest.symm
    have hal := adds_lines _ _ _ _ _ _ hA
    rw [hss]
    have hsrc : ∀ X Y Z W V L, srcEs (H.set c X ++ Y :: Z :: W :: (L ++ [V, outB a])) 4 (outS (H.length + (L.length + 1 + 1 + 1 + 1)) a) = some (a.map Lk.cells) := fun X Y Z W V L => by
      refine srcEs_own (t := 67) ?_
      rw [get_next]
      simp
    simp -dsimp [g0, g3, g5, g9, g19, g20, g21, g11, g12]
    simp only [hsrc]
    simp -dsimp [g0, g3, g5, g9, g19, g20, g21, g11, g12]
    refine appendVW_own (k := H.length + 2) (es := out.map Lk.cells) (by rw [get_next2]) (by simp; omega) (by simp; omega) ?_
    rw [set_next2]
    simp -dsimp [g0, g3, g5, g9, g19, g20, g21, g11, g12]
    refine ⟨a, n1, ?_⟩
    simp [outB, outS]
    exact ⟨hA, h3, h4⟩
  clear g g0 g3 g5 g9 g19 g20 g21 g11 g12
  rintro g _ ⟨a, n1, rfl, hA, h3, h4, g0, g3, g5, g9, g19, g20, g21, g11, g12⟩
  have hal := adds_lines _ _ _ _ _ _ hA
  rw [hA, Rw.bind_ok] at hrest
  obtain ⟨out1, ho1⟩ : ∃ out1, out1 = out ++ a := ⟨_, rfl⟩
  have ho1l : (out1.length : Int) ≤ n1 := by rw [ho1]; simp; omega
  rw [← ho1] at g9 ⊢
  -- the branch, with an empty list
  have c6 := fun H h => items_ok st br n1 t y (by omega) (by omega) h3 h4 H c h
  simp only [Lk.cells_eq, Tm.cells_eq] at c6
  obtain ⟨M, hM⟩ : ∃ M : Int → List Blk → List Blk, M = fun n R => H.set c (rwB st br n) ++ bT :: bX :: outB out1 :: (L ++ yB :: R) := ⟨_, rfl⟩
  have hMe : ∀ n R, M n R = H.set c (rwB st br n) ++ bT :: bX :: outB out1 :: (L ++ yB :: R) := fun n R => by rw [hM]
  have hMc : ∀ n R R', (M n R ++ R')[c]? = some (rwB st br n) := fun n R R' => by rw [hMe, List.append_assoc]; exact hg _ _
  have hMs : ∀ n k R R', (M n R ++ R').set c (rwB st br k) = M k R ++ R' := fun n k R R' => by rw [hMe, List.append_assoc, hss, hMe, List.append_assoc]
  have hMc0 : ∀ n R, (M n R)[c]? = some (rwB st br n) := fun n R => by rw [hMe]; exact hg _ _
  have hMs0 : ∀ n k R, (M n R).set c (rwB st br k) = M k R := fun n k R => by rw [hMe, hss, hMe]
  have hMT : ∀ n R, (M n R)[H.length]? = some (.box 76 [I t.kind, Pk.sls t.lines, Bo t.taken, Tm.sls t.subs]) := fun n R => by rw [hMe, ← hbT]; simp
  have hMTa : ∀ n R R', (M n R ++ R')[H.length]? = some (.box 76 [I t.kind, Pk.sls t.lines, Bo t.taken, Tm.sls t.subs]) := fun n R R' => by rw [List.getElem?_append_left (by rw [hMe]; simp)]; exact hMT _ _
  have hMy : ∀ n R, (M n R)[hy]? = some (.box 67 [I y.kind, U.sl y.items, Bo y.taken, Lk.sls y.subs]) := fun n R => by rw [hMe]; exact hgy _ _ _ _ _
  have hMya : ∀ n R R', (M n R ++ R')[hy]? = some (.box 67 [I y.kind, U.sl y.items, Bo y.taken, Lk.sls y.subs]) := fun n R R' => by
    rw [List.getElem?_append_left ((List.getElem?_eq_some_iff.1 (hMy n R)).1)]; exact hMy _ _
  obtain ⟨k, hk⟩ : ∃ k, k = H.length + (L.length + 4) := ⟨_, rfl⟩
  have hMl : ∀ n R, (M n R).length = k + R.length := fun n R => by rw [hMe, hk]; simp; omega
  have hMa : ∀ n R R', M n R ++ R' = M n (R ++ R') := fun n R R' => by rw [hMe, hMe]; simp
  rw [show H.set c (rwB st br n1) ++ bT :: bX :: outB out1 :: (L ++ [yB, outB a]) = M n1 [outB a] from (hMe _ _).symm]
  refine awp_cutA (fun f H' => ∃ its n2, itemsM t y n1 = .ok its n2 ∧ 0 ≤ n2 ∧ n2 ≤ 1000000 ∧ LoopS M k its y.taken n2 (f 13) H' ∧ f 0 = .bp c 0 ∧ f 3 = I deep ∧ f 5 = .bp H.length 0 ∧ f 9 = outS (H.length + 2) out1 ∧ f 19 = Lk.sl l ∧ f 20 = I l.length ∧ f 21 = I i ∧ f 11 = .bp hy 0 ∧ f 12 = Lk.sl bl) ?_ ?_
  · refine awp_region_tree (fun d => d == 38 || d == 41) loopT (by kernel_rfl) ?_
    have fin : ∀ (its : List Int) (n2 : Int) (jz jb : Nat) (R : List Blk), R[jz]? = some (zB its y.taken (k + jb) nilS) → R[jb]? = some (ownB 58 1 [[nilS]]) → jz ≠ jb → LoopS M k its y.taken n2 (.bp (k + jz) 0) (M n2 R) := fun its n2 jz jb R a b c => ⟨R, jz, jb, rfl, a, b, c, rfl⟩
    have bad : ∀ e m R, itemsM t y n1 = .err e → WeakE (Tidy H (RwR st br c H Lk.sl (fun _ => []) E)) (.pan (refL e)) (M m R) := fun e m R h => by
      rw [hMe]
      exact finPF _ _ _ (by rw [← hrest, h]; rfl)
    simp -dsimp [loopT, g0, g3, g5, g9, g19, g20, g21, g11, g12, hMT, hMTa, hMy, hMya, hMl]
    repeat' (with_reducible first
      | refine And.intro ?_ ?_
      | refine rwW (c6 _ (hMc _ _ _)) (fun its n2 hB h5 h6 => ?_) (fun e n2 hB => ?_)
      | refine rwW (c6 _ (hMc0 _ _)) (fun its n2 hB h5 h6 => ?_) (fun e n2 hB => ?_)
      | (simp -dsimp [loopT, g0, g3, g5, g9, g19, g20, g21, g11, g12, hMT, hMTa, hMy, hMya, hMl, hMs, hMs0]; done)
      | simp -dsimp [loopT, g0, g3, g5, g9, g19, g20, g21, g11, g12, hMT, hMTa, hMy, hMya, hMl, hMs, hMs0])
    all_goals first
      | exact bad _ _ _ hB
      | (rw [hMa]; exact bad _ _ _ hB)
      | (rw [hMa]; exact ⟨its, n2, hB, h5, h6, fin its n2 2 1 _ rfl rfl (by omega)⟩)
      | (rw [hMa]; exact ⟨its, n2, hB, h5, h6, fin its n2 1 2 _ rfl rfl (by omega)⟩)
  clear g g0 g3 g5 g9 g19 g20 g21 g11 g12
  rintro g _ ⟨its, n2, hB, h5, h6, ⟨R, jz, jb, rfl, hRz, hRb, hjj, g13⟩, g0, g3, g5, g9, g19, g20, g21, g11, g12⟩
  rw [hB, Rw.bind_ok] at hrest
  have hib := items_ge hB
  have hlz := (List.getElem?_eq_some_iff.1 hRz).1
  have hlb := (List.getElem?_eq_some_iff.1 hRb).1
  have hMj : ∀ n R j, (M n R)[k + j]? = R[j]? := fun n R j => by
    rw [hMe, show k + j = H.length + ((j + 1 + L.length) + 1 + 1 + 1) by omega, get_next]
    simp only [List.getElem?_cons_succ]
    rw [show j + 1 + L.length = L.length + (j + 1) by omega, List.getElem?_append_right (by omega)]
    simp
  have hMt : ∀ n R j X, (M n R).set (k + j) X = M n (R.set j X) := fun n R j X => by
    rw [hMe, hMe, show k + j = H.length + ((j + 1 + L.length) + 1 + 1 + 1) by omega, set_next]
    simp only [List.set_cons_succ]
    rw [show j + 1 + L.length = L.length + (j + 1) by omega, List.set_append, if_neg (by omega)]
    simp
  obtain ⟨hz, hhz⟩ : ∃ hz, hz = k + jz := ⟨_, rfl⟩
  obtain ⟨hbh, hhb⟩ : ∃ hbh, hbh = k + jb := ⟨_, rfl⟩
  have hMz : ∀ n, (M n R)[hz]? = some (.box 67 [I 2, U.sl its, Bo y.taken, .hs hbh 0 1 1]) := fun n => by rw [hhz, hMj, hRz, hhb]; rfl
  have hMb : ∀ n, (M n R)[hbh]? = some (.row 58 1 [[nilS]]) := fun n => by rw [hhb, hMj, hRb]; rfl
  have hMbs : ∀ n X, (M n R).set hbh X = M n (R.set jb X) := fun n X => by rw [hhb, hMt]
  rw [← hhz] at g13
  -- what is within
  refine awp_cut (fun d => d == 49 || d == 53) (fun i => if i = 10 then some [(0, []), (1, []), (2, []), (3, []), (5, []), (6, []), (7, []), (4, [0, 1, 7]), (8, [0, 1]), (9, []), (10, [])] else none)
    (fun f H' => LoopB M R jb n2 (fun body n3 => (loopGo rec st t deep (l.drop (i + 1)) n3).pre (out1 ++ [.mk 2 its y.taken [body]]) = F) H' ∧ f 0 = .bp c 0 ∧ f 3 = I deep ∧ f 5 = .bp H.length 0 ∧ f 9 = outS (H.length + 2) out1 ∧ f 19 = Lk.sl l ∧ f 20 = I l.length ∧ f 21 = I i ∧ f 13 = .bp hz 0) (by kernel_rfl) ?_ ?_
  · have done : ∀ (P : List Lk → Int → Prop) body bv n3, Weak bv (Lk.sl body) → AV.frzB bv = true → n2 ≤ n3 → n3 ≤ 1000000 → P body n3 → LoopB M R jb n2 P (M n3 (R.set jb (.row 58 1 [[bv]]))) := fun P body bv n3 a b c d e => ⟨body, bv, n3, rfl, a, b, c, d, e⟩
    simp -dsimp [g0, g3, g5, g9, g19, g20, g21, g11, g12, g13, hMy, hMz]
    cases htk : y.taken
    · rw [htk] at hrest
      simp only [Bool.false_eq_true, if_false, Rw.bind_ok, Rw.pre_pre, ← List.append_assoc, ← ho1] at hrest
      simp -dsimp [g0, g3, g5, g9, g19, g20, g21, g11, g12, g13, hMy, hMz]
      have := done (fun body n3 => (loopGo rec st t deep (l.drop (i + 1)) n3).pre (out1 ++ [.mk 2 its false [body]]) = F) [] nilS n2 (.nil 4) rfl (by omega) h6 hrest
      rw [set_same (by rw [hRb]; rfl)] at this
      exact this
    · rw [htk] at hrest
      simp only [if_true] at hrest
      simp -dsimp [g0, g3, g5, g9, g19, g20, g21, g11, g12, g13, hMy, hMz, hMT]
      refine getW (c3 _) (fun hb => ?_) (fun hb => ?_)
      rotate_left
      · have hi : ¬ 0 < t.subs.length := by simpa using hb
        have hsu : t.subs[0]? = none := List.getElem?_eq_none (by omega)
        rw [hsu] at hrest
        simp -dsimp
        rw [hMe]
        exact finPF _ _ _ hrest.symm
      have hi2 : 0 < t.subs.length := by simpa using hb
      have hsu : t.subs[0]? = some t.subs[0] := List.getElem?_eq_getElem hi2
      obtain ⟨u, hu2⟩ : ∃ u, u = t.subs[0] := ⟨_, rfl⟩
      rw [← hu2] at hsu
      clear hu2
      have huc := sub_count hsu
      rw [hsu] at hrest ⊢
      simp only [Rw.get_some, Option.getD_some] at hrest ⊢
      have w2 : IntKind.i64.wrap ((deep : Int) + 2) = ((deep + 2 : Nat) : Int) := wrapI (by omega) (by omega)
      have cr := fun H c h => hr.ok u (deep + 2) bl n2 (by omega) (by omega) (by omega) (by omega) h5 h6 H c h
      simp -dsimp [g0, g3, g5, g9, g19, g20, g21, g11, g12, g13, hMy, hMz, hMT, w2]
      refine rwW (cr _ _ (hMc0 _ _)) (fun body n3 hC h7 h8 => ?_) (fun e n3 hC => ?_)
      rotate_left
      · rw [hC] at hrest
        rw [hMs0]
        simp -dsimp
        rw [hMe]
        exact finPF _ _ _ hrest.symm
      have hcl2 := hr.adds _ _ _ _ _ _ hC
      rw [hC] at hrest
      simp only [Rw.bind_ok, Rw.pre_pre, ← List.append_assoc, ← ho1] at hrest
      have hst : ∀ n v, astore (M n R) (.rp hbh 1 0 0) [v] = some (M n (R.set jb (.row 58 1 [[v]]))) := fun n v => by
        simp only [astore, hMb]
        rw [← hMbs]
        rfl
      rw [hMs0]
      simp -dsimp [g0, g3, g5, g9, g19, g20, g21, g11, g12, g13, hMy, hMz, hMT, hMb, hMbs, hst]
      exact done (fun body n3 => (loopGo rec st t deep (l.drop (i + 1)) n3).pre (out1 ++ [.mk 2 its true [body]]) = F) body (Lk.sl body) n3 (.refl _) rfl (by omega) h8 hrest
  clear g g0 g3 g5 g9 g19 g20 g21 g11 g12 g13 hrest
  rintro g _ ⟨⟨body, bv, n3, rfl, hbv, hbf, h7, h8, hrest⟩, g0, g3, g5, g9, g19, g20, g21, g13⟩
  obtain ⟨R', hR'⟩ : ∃ R', R' = R.set jb (.row 58 1 [[bv]]) := ⟨_, rfl⟩
  have hRz' : R'[jz]? = some (.box 67 [I 2, U.sl its, Bo y.taken, ownS (k + jb) [[bv]]]) := by
    rw [hR', List.getElem?_set_ne (Ne.symm hjj), hRz]; rfl
  have hRb' : R'[jb]? = some (ownB 58 1 [[bv]]) := by
    rw [hR', List.getElem?_set_self hlb]; rfl
  rw [← hR', hMe]
  have hlen2 : (H.set c (rwB st br n3)).length = H.length := by simp
  have hun2 : underH (H.set c (rwB st br n3)).length (H.set c (rwB st br n3)) = true := by rw [hlen2]; exact underH_set hu rfl
  refine awp_giveO hun2 (jb + 1 + L.length + 1 + 1 + 1) 1 58 [[bv]] (by
    simp only [List.getElem?_cons_succ]
    rw [show jb + 1 + L.length = L.length + (jb + 1) by omega, List.getElem?_append_right (by omega)]
    simpa using hRb') (by simp [hbf]) ?_
  have hkk : (H.set c (rwB st br n3)).length + (jb + 1 + L.length + 1 + 1 + 1) = k + jb := by rw [hlen2, hk]; omega
  rw [hkk]
  obtain ⟨φ, hφ⟩ : ∃ φ, φ = Blk.frzS (k + jb) 1 [[bv]] := ⟨_, rfl⟩
  have hid : ∀ b : Blk, b.under 0 = true → φ b = b := fun b h => by rw [hφ]; exact blkS_id (Nat.zero_le _) b h
  obtain ⟨R3, hR3⟩ : ∃ R3, R3 = ((L ++ yB :: R').map φ).set (jb + 1 + L.length) .gone := ⟨_, rfl⟩
  have hmap : ((bT :: bX :: outB out1 :: (L ++ yB :: R')).map φ).set (jb + 1 + L.length + 1 + 1 + 1) .gone = bT :: bX :: outB out1 :: R3 := by
    rw [hR3]
    simp only [List.map_cons, List.set_cons_succ]
    rw [hid bT (by rw [hbT]; rfl), hid bX (by rw [hbX]; rfl), hid (outB out1) (under_ownB_plain (lks_frzB out1))]
  rw [← hφ, hmap]
  have hR3z : R3[jz + 1 + L.length]? = some (.box 67 [I 2, U.sl its, Bo y.taken, gvS 1 [[bv]]]) := by
    rw [hR3, List.getElem?_set_ne (by omega), List.getElem?_map, show jz + 1 + L.length = L.length + (jz + 1) by omega, List.getElem?_append_right (by omega)]
    have : (yB :: R')[L.length + (jz + 1) - L.length]? = some (.box 67 [I 2, U.sl its, Bo y.taken, ownS (k + jb) [[bv]]]) := by
      rw [Nat.add_sub_cancel_left]; exact hRz'
    rw [this, Option.map_some, hφ, blkS_box]
    simp
  obtain ⟨g', hg'⟩ : ∃ g' : Fr, g' = fun s => (g s).frzS (k + jb) 1 [[bv]] := ⟨_, rfl⟩
  rw [← hg']
  have : g' 0 = .bp c 0 ∧ g' 3 = I deep ∧ g' 5 = .bp H.length 0 ∧ g' 9 = outS (H.length + 2) out1 ∧ g' 19 = Lk.sl l ∧ g' 20 = I l.length ∧ g' 21 = I i ∧ g' 13 = .bp hz 0 := by
    subst hg'
    refine ⟨by simp [g0], by simp [g3], by simp [g5], ?_, by simp [g19], by simp [g20], by simp [g21], by simp [g13]⟩
    show (g 9).frzS _ _ _ = _
    rw [g9]
    exact frzS_ne (by omega)
  clear hg' g0 g3 g5 g9 g19 g20 g21 g13
  obtain ⟨g0, g3, g5, g9, g19, g20, g21, g13⟩ := this
  have hzz : hz = H.length + (jz + 1 + L.length + 1 + 1 + 1) := by rw [hhz, hk]; omega
  have hgz : ∀ X (A B C : Blk) Q, (H.set c X ++ A :: B :: C :: Q)[hz]? = Q[jz + 1 + L.length]? := fun X A B C Q => by rw [hzz, get_next]; rfl
  have hsz : ∀ X (A B C Y : Blk) Q, (H.set c X ++ A :: B :: C :: Q).set hz Y = H.set c X ++ A :: B :: C :: Q.set (jz + 1 + L.length) Y := fun X A B C Y Q => by rw [hzz, set_next]; rfl
  obtain ⟨z, hzd⟩ : ∃ z, z = Lk.mk 2 its y.taken [body] := ⟨_, rfl⟩
  rw [← hzd] at hrest
  refine awp_weakbox hz 67 _ z.cells (by rw [hgz]; exact hR3z) (by
    rw [hzd, Lk.cells_eq]
    refine .cons (.refl _) (.cons (.refl _) (.cons (.refl _) (.cons ?_ .nil)))
    exact Weak.vsR (.cons (.cons hbv .nil) .nil)) ?_
  rw [hsz]
  obtain ⟨R4, hR4⟩ : ∃ R4, R4 = R3.set (jz + 1 + L.length) (.box 67 z.cells) := ⟨_, rfl⟩
  have hR4z : ∀ X (A B C : Blk), (H.set c X ++ A :: B :: C :: R4)[hz]? = some (.box 67 [I z.kind, U.sl z.items, Bo z.taken, Lk.sls z.subs]) := fun X A B C => by
    rw [hgz, hR4, List.getElem?_set_self (List.getElem?_eq_some_iff.1 hR3z).1, Lk.cells_eq]
  rw [← hR4]
  refine awp_all (fun d => d == 58) (fun _ => none) (by kernel_rfl) ?_
  simp -dsimp [g0, g3, g5, g9, g19, g20, g21, g13, hR4z]
  refine appendVW_own (k := H.length + 2) (es := out1.map Lk.cells) (by rw [get_next2]) (by simp; omega) (by simp; omega) ?_
  rw [set_next2]
  simp -dsimp [g0, g3, g5, g9, g19, g20, g21, g13]
  exact ⟨out1 ++ [z], n3, R4, by simp [outB], by omega, h8, by simp; omega, by simp [outS], hrest⟩
end
end Go.Proofs
namespace Go.Proofs
open Go.Mu
def kindF (f : Nat) : AV := .fn (.func f) [] []
def termTab : List (Value × AV) := [(.int .i64 1, kindF 138), (.int .i64 2, kindF 139), (.int .i64 3, kindF 140), (.int .i64 4, kindF 141), (.int .i64 5, kindF 142), (.int .i64 6, kindF 143), (.int .i64 7, kindF 144), (.int .i64 8, kindF 145), (.int .i64 9, kindF 146)]
theorem sameNow_i64 (a b : Int) : Instr.sameNow (.int .i64) (.int .i64 a) (.int .i64 b) = some (a == b) := by
  simp [Instr.sameNow]
@[simp] theorem mset_nil' (d : TypeDesc) (k : Value) (x : AV) : mset d k x [] = some [(k, x)] := (rfl)
@[simp] theorem mset_consI (a b : Int) (x v : AV) (l : List (Value × AV)) : mset (.int .i64) (.int .i64 a) x ((.int .i64 b, v) :: l) = (if a = b then some ((.int .i64 a, x) :: l) else (mset (.int .i64) (.int .i64 a) x l).map ((.int .i64 b, v) :: ·)) := by
  rw [mset, sameNow_i64]
  by_cases h : a = b
  · subst h; simp
  · rw [if_neg h, beq_false_of_ne h]
theorem terms_ok (H : List Blk) : ACalls Try.prog 120 [] H (fun e H' => e = .ret (.hm H.length) ∧ H' = H ++ [.map termTab]) := by
  refine acalls_tidy (acalls_of_vc (hn := fun _ => false) (od := fun _ => none) Try.func120 rfl (by kernel_rfl) ?_)
  simp -dsimp
  have := tidy_to (H := H) (H2 := H ++ [.map termTab]) (L := []) (R := fun e H' => e = .ret (.hm H.length) ∧ H' = H ++ [.map termTab]) (r := .hm H.length) (by simp) (fun h => underH_app (n := H.length) (by simp) h (fun b hb => by
    simp only [List.mem_singleton] at hb; subst hb; rfl)) (by simp [AV.under]) ⟨rfl, rfl⟩
  rw [List.append_nil] at this
  exact this
theorem mfind_consI (a b : Int) (v : AV) (l : List (Value × AV)) : mfind (.int .i64) (.int .i64 a) ((.int .i64 b, v) :: l) = (if a = b then some (some v) else mfind (.int .i64) (.int .i64 a) l) := by
  rw [mfind, sameNow_i64]
  by_cases h : a = b
  · subst h; simp
  · rw [if_neg h, beq_false_of_ne h]
theorem kind_none {k : Int} (h : ¬ (1 ≤ k ∧ k ≤ 9)) : mfind (.int .i64) (.int .i64 k) termTab = some none := by
  unfold termTab
  simp only [mfind_consI]
  repeat rw [if_neg (by omega)]
  rfl
@[simp] theorem eqfn (f : Nat) : binE Try.prog .eql 166 (.fn (.func f) [] []) (.v .nilFunc) = some (Bo false) := by kernel_rfl
@[simp] theorem eqnf : binE Try.prog .eql 166 (.v .nilFunc) (.v .nilFunc) = some (Bo true) := by kernel_rfl
@[simp] theorem binV_fnT (op : BinOp) (t : TypeId) (f : Fn) (a b : List AV) (K : AV → Prop) (w : Wit K) : binV Try.prog op t true false (.fn f a b) (.v .nilFunc) K w = bindOW (binE Try.prog op t (.fn f a b) (.v .nilFunc)) K (wit _) := by
  simp [binV, bindOW, isNum, nnB, andV]
@[simp] theorem binV_nfT (op : BinOp) (t : TypeId) (K : AV → Prop) (w : Wit K) : binV Try.prog op t true false (.v .nilFunc) (.v .nilFunc) K w = bindOW (binE Try.prog op t (.v .nilFunc) (.v .nilFunc)) K (wit _) := by
  simp [binV, bindOW, isNum, nnB, andV]
@[simp] theorem avZ_nf : assertV.avZ Value.nilFunc = .v .nilFunc := (rfl)
/-- What is made of a list so far. -/
def OutL (H : List Blk) (c : Nat) (st : Int) (br : Bool) (F : Rw (List Lk)) (rest : Int → Rw (List Lk)) (x : AV) (H' : List Blk) : Prop :=
  ∃ out n L, H' = H.set c (rwB st br n) ++ .map termTab :: outB out :: L ∧ 0 ≤ n ∧ n ≤ 1000000 ∧ (out.length : Int) ≤ n ∧ x = outS (H.length + 1) out ∧ (rest n).pre out = F
theorem get_next1 {H : List Blk} {c : Nat} (X Y Z : Blk) (L : List Blk) : (H.set c X ++ Y :: Z :: L)[H.length + 1]? = some Z := get_next (H := H) (c := c) (L := Y :: Z :: L) X 1
theorem set_next1 {H : List Blk} {c : Nat} (X Y Z Z' : Blk) (L : List Blk) : (H.set c X ++ Y :: Z :: L).set (H.length + 1) Z' = H.set c X ++ Y :: Z' :: L := set_next (H := H) (c := c) (L := Y :: Z :: L) X Z' 1
section
variable {rec : Rec} {st : Int} {br : Bool} {m : Nat} {n : Int} {t : Tm} {x : Lk} {deep : Nat} {H : List Blk} {c : Nat}
theorem node_ok (hr : RecOk rec st br m) (hm : x.count ≤ m) (hin : NodeIn t x deep n) (hk : 1 ≤ t.kind ∧ t.kind ≤ 9) :
    ∃ fid, mfind (.int .i64) (.int .i64 t.kind) termTab = some (some (.fn (.func fid) [] [])) ∧ okFn Try.prog fid = true ∧
      ∀ (H : List Blk) (c : Nat), H[c]? = some (rwB st br n) → ACalls Try.prog fid [.bp c 0, .agg t.cells, .agg x.cells, I deep] H (RwR st br c H Lk.sl (fun _ => []) (nodeM rec st br t deep x n)) := by
  have hct := Tm.count_eq t
  have hcx := Lk.count_eq x
  obtain ⟨e1, e2, e3, e4, e5⟩ := hin
  have hin : NodeIn t x deep n := ⟨e1, e2, e3, e4, e5⟩
  have hl1 : lksCount [x] = x.count := by simp [lksCount]
  have hcase : t.kind = 1 ∨ t.kind = 2 ∨ t.kind = 3 ∨ t.kind = 4 ∨ t.kind = 5 ∨ t.kind = 6 ∨ t.kind = 7 ∨ t.kind = 8 ∨ t.kind = 9 := by omega
  unfold nodeM
  rcases hcase with h | h | h | h | h | h | h | h | h <;> rw [h]
  · exact ⟨138, rfl, by kernel_rfl, fun H c hc => same_ok st br n t x deep (by omega) (by omega) e4 e5 H c hc⟩
  · exact ⟨139, rfl, by kernel_rfl, fun H c hc => line_ok st br n t x deep (by omega) (by omega) e4 e5 H c hc⟩
  · exact ⟨140, rfl, by kernel_rfl, fun H c hc => branch_ok hr hm hin hc⟩
  · exact ⟨141, rfl, by kernel_rfl, fun H c hc => taken_ok hr hm hin hc⟩
  · exact ⟨142, rfl, by kernel_rfl, fun H c hc => loop_ok' hr hm hin hc⟩
  · exact ⟨143, rfl, by kernel_rfl, fun H c hc => rounds_ok hr hm hin hc⟩
  · exact ⟨144, rfl, by kernel_rfl, fun H c hc => call_ok' hr hm hin hc⟩
  · exact ⟨145, rfl, by kernel_rfl, fun H c hc => none_ok st br n t x deep e4 e5 H c hc⟩
  · exact ⟨146, rfl, by kernel_rfl, fun H c hc => each_ok hr hm hin hc⟩
theorem list_ok (hr : RecOk rec st br m) (u : List Tm) (l : List Lk) (deep : Nat) (n : Int) (hm : lksCount l < m + 1) (hl : lksCount l ≤ 2^40) (hd : deep + lksCount l ≤ 2^41) (hut : tmsCount u ≤ 2^40) (h0 : 0 ≤ n) (h1 : n ≤ 1000000) (H : List Blk) (c : Nat) (hc : H[c]? = some (rwB st br n)) :
    ACalls Try.prog 77 [.bp c 0, Tm.sl u, Lk.sl l, I deep] H (RwR st br c H Lk.sl (fun _ => []) (if u.length < l.length ∨ (l.length < u.length ∧ br = false) then .err 2 else goM rec st br deep u l n)) := by
  refine acalls_under fun hu _ => acalls_tidy (acalls_weakE (acalls_of_awp Try.func77 rfl (by kernel_rfl) ?_))
  have hul := tms_len u
  have hll := lks_len l
  have hcl := lt_of_get hc
  have hL := fun L => get_app_old hc L
  have hs := fun L X => set_app_lt (H := H) hcl X L
  have hg := fun X L => get_set_app (H := H) hcl X L
  have hss := fun X Y L => set_set_app (H := H) hcl X Y L
  obtain ⟨E, hE⟩ : ∃ E, E = (if u.length < l.length ∨ (l.length < u.length ∧ br = false) then .err 2 else goM rec st br deep u l n : Rw (List Lk)) := ⟨_, rfl⟩
  rw [← hE]
  have fin := fun out m L j => rw_fin (st := st) (br := br) (c := c) (E := E) hu out m L j
  have finP := fun e m L => rw_finP (st := st) (br := br) (c := c) (E := E) (H := H) e m L
  have finP0 := fun e L => rw_finP0 (E := E) hc e L
  have finP00 : ∀ e, E = .err e → WeakE (Tidy H (RwR st br c H Lk.sl (fun _ => []) E)) (.pan (refL e)) H := fun e h => by simpa using finP0 e [] h
  refine awp_cut (fun _ => false) (fun _ => none) (fun f H' => H = H' ∧ f 0 = .bp c 0 ∧ f 1 = Tm.sl u ∧ f 2 = Lk.sl l ∧ f 3 = I deep) (by kernel_rfl) ?_ ?_
  · simp -dsimp
  rintro g _ ⟨rfl, g0, g1, g2, g3⟩
  -- does it fit
  refine awp_cut (fun _ => false) (fun _ => none) (fun f H' => H = H' ∧ f 0 = .bp c 0 ∧ f 1 = Tm.sl u ∧ f 2 = Lk.sl l ∧ f 3 = I deep ∧ l.length ≤ u.length ∧ E = goM rec st br deep u l n) (by kernel_rfl) ?_ ?_
  · by_cases h2 : u.length < l.length
    · rw [if_pos (.inl h2)] at hE
      simp -dsimp [g0, g1, g2, g3, h2]
      refine acallsW_of (leave_ok 2 _) ?_
      rintro _ _ ⟨rfl, rfl⟩
      simp -dsimp
      exact finP00 2 hE
    · by_cases h3 : l.length < u.length
      · cases hbr : br
        · rw [if_pos (.inr ⟨h3, hbr⟩)] at hE
          subst hbr
          simp -dsimp [g0, g1, g2, g3, h2, h3, hc]
          refine acallsW_of (leave_ok 2 _) ?_
          rintro _ _ ⟨rfl, rfl⟩
          simp -dsimp
          exact finP00 2 hE
        · rw [if_neg (by rintro (h | ⟨_, h⟩); exact h2 h; rw [hbr] at h; cases h)] at hE
          subst hbr
          simp -dsimp [g0, g1, g2, g3, h2, h3, hc]
          exact ⟨by omega, hE⟩
      · rw [if_neg (by rintro (h | ⟨h, _⟩); exact h2 h; exact h3 h)] at hE
        simp -dsimp [g0, g1, g2, g3, h2, h3, hc]
        exact ⟨by omega, hE⟩
  clear g g0 g1 g2 g3 hE
  rintro g _ ⟨rfl, g0, g1, g2, g3, hle, hE⟩
  have ct := fun H => terms_ok H
  refine awp_cut (fun _ => false) (fun _ => none) (fun f H' => H' = H ++ [.map termTab] ∧ f 0 = .bp c 0 ∧ f 1 = Tm.sl u ∧ f 2 = Lk.sl l ∧ f 3 = I deep ∧ f 9 = .hm H.length) (by kernel_rfl) ?_ ?_
  · simp -dsimp [g0, g1, g2, g3]
    refine acallsW_of (ct _) ?_
    rintro _ _ ⟨rfl, rfl⟩
    simp -dsimp [g0, g1, g2, g3]
  clear g g0 g1 g2 g3
  rintro g _ ⟨rfl, g0, g1, g2, g3, g9⟩
  refine awp_cut (fun _ => false) (fun _ => none) (fun f H' => H' = H ++ [.map termTab] ∧ f 0 = .bp c 0 ∧ f 1 = Tm.sl u ∧ f 2 = Lk.sl l ∧ f 3 = I deep ∧ f 9 = .hm H.length ∧ f 10 = nilS) (by kernel_rfl) ?_ ?_
  · simp -dsimp [g0, g1, g2, g3, g9]
  clear g g0 g1 g2 g3 g9
  rintro g _ ⟨rfl, g0, g1, g2, g3, g9, g10⟩
  refine awp_spare 1 ?_
  refine awp_cutA (fun f H' => OutL H c st br E (fun n => .ok [] n) (f 10) H') ?_ ?_
  rotate_left
  · clear g g0 g1 g2 g3 g9 g10
    rintro g _ ⟨out, n', L, rfl, a0, a1, a2, g10, a3⟩
    simp only [Rw.pre_ok, List.append_nil] at a3
    refine awp_all (fun _ => false) (fun _ => none) (by kernel_rfl) ?_
    simp -dsimp [g10]
    exact fin _ _ _ 1 a3.symm a0 a1 rfl
  refine awp_all (fun d => d == 61 || d == 62) (fun _ => none) (by kernel_rfl) ?_
  simp -dsimp [g0, g1, g2, g3, g9, g10]
  refine loop_rule (hn := fun d => d == 61 || d == 62) (od := fun _ => none) (fun (i : Nat) f H' => OutL H c st br E (goM rec st br deep (u.drop i) (l.drop i)) (f 10) H' ∧ f 0 = .bp c 0 ∧ f 1 = Tm.sl u ∧ f 3 = I deep ∧ f 9 = .hm H.length ∧ f 35 = Lk.sl l ∧ f 36 = I l.length ∧ f 37 = I i ∧ i ≤ l.length) (fun i => l.length - i) (by kernel_rfl) 0 (by
    simp [g0, g1, g2, g3, g9, g10]
    exact ⟨[], n, [], by rw [set_same hc]; simp [ownB], h0, h1, by simpa using h0, (ownS_nil _).symm, by simp [hE]⟩) ?_
  clear g g0 g1 g2 g3 g9 g10
  rintro i g _ ⟨⟨out, n', L, rfl, a0, a1, a2, g10, hrest⟩, g0, g1, g3, g9, g35, g36, g37, hi⟩
  simp -dsimp [g0, g1, g3, g9, g10, g35, g36, g37]
  refine condVW_introD (fun hlt => ?_) (fun hlt => ?_)
  · have hlt2 : i < u.length := by omega
    rw [drop_cons hlt, drop_cons hlt2, goM] at hrest
    have hgx := lks_get hlt
    have hgt2 := tms_get hlt2
    have hlx : l[i]? = some l[i] := List.getElem?_eq_getElem hlt
    have htx : u[i]? = some u[i] := List.getElem?_eq_getElem hlt2
    obtain ⟨x, hxe⟩ : ∃ x, x = l[i] := ⟨_, rfl⟩
    obtain ⟨t, hte⟩ : ∃ t, t = u[i] := ⟨_, rfl⟩
    rw [← hxe] at hrest hgx hlx
    rw [← hte] at hrest hgt2 htx
    clear hxe hte
    have hmap : ∀ X Y L, (H.set c X ++ .map termTab :: Y :: L)[H.length]? = some (.map termTab) := fun X Y L => by simp
    simp -dsimp [g0, g1, g3, g9, g10, g35, g36, g37, hlx, htx]
    by_cases hk : 1 ≤ t.kind ∧ t.kind ≤ 9
    · obtain ⟨fid, hf1, hf2, hf3⟩ := node_ok (deep := deep) (n := n') hr (by omega : x.count ≤ m) ⟨by omega, by omega, by omega, a0, a1⟩ hk
      simp only [Lk.cells_eq, Tm.cells_eq] at hf3
      simp -dsimp [g0, g1, g3, g9, g10, g35, g36, g37, hlx, htx, hf1, hf2]
      refine rwW (hf3 _ _ (hg _ _)) (fun a n1 hA h3 h4 => ?_) (fun e n1 hA => ?_)
      rotate_left
      · rw [hA] at hrest
        rw [hss]
        simp -dsimp
        exact finP _ _ _ hrest.symm
      have hal := adds_node hr.adds _ _ _ _ _ _ hA
      rw [hA, Rw.bind_ok, Rw.pre_pre] at hrest
      rw [hss]
      simp -dsimp [g0, g1, g3, g9, g10, g35, g36, g37]
      refine appendVW_own (k := H.length + 1) (es := out.map Lk.cells) (by rw [get_next1]) (by simp; omega) (by simp; omega) ?_
      rw [set_next1]
      simp -dsimp [g0, g1, g3, g9, g10, g35, g36, g37]
      exact ⟨i + 1, by omega, ⟨out ++ a, n1, _, by simp [outB]; rfl, h3, h4, by simp; omega, by simp [outS], hrest⟩, wrapS (by omega), by omega⟩
    · have hkn := kind_none hk
      have hnode : nodeM rec st br t deep x n' = .err 2 := by
        unfold nodeM
        repeat rw [if_neg (by omega)]
      rw [hnode] at hrest
      simp -dsimp [g0, g1, g3, g9, g10, g35, g36, g37, hlx, htx, hkn]
      refine acallsW_of (leave_ok 2 _) ?_
      rintro _ _ ⟨rfl, rfl⟩
      simp -dsimp
      exact finP _ _ _ hrest.symm
  · have h1 : l.drop i = [] := List.drop_eq_nil_of_le (by omega)
    rw [h1, goM] at hrest
    simp -dsimp [g10]
    exact ⟨out, n', L, rfl, a0, a1, a2, rfl, hrest⟩
end
theorem rec_ok (st : Int) (br : Bool) : ∀ m, RecOk (listM st br m) st br m
  | 0 => ⟨fun u deep l n h => by omega, adds_list st br 0⟩
  | m + 1 => ⟨fun u deep l n h a b c d e H k hk => list_ok (rec_ok st br m) u l deep n h a b c d e H k hk, adds_list st br (m + 1)⟩
end Go.Proofs
namespace Go.Proofs
open Go.Mu
theorem pick_indexF (l : List Pk) (p : Pk → Bool) (g : FuncId) (cap : List AV) (hok : okFn Try.prog g = true) (hl : l.length ≤ 2^40) (H : List Blk) (hg : ∀ x ∈ l, ACalls Try.prog g (.agg x.cells :: cap) H (fun e H' => e = .ret (Bo (p x)) ∧ H' = H)) :
    ACalls Try.prog 117 [.vs 4 (l.map fun x => x.cells), .fn (.func g) [] cap] H (fun e H' => e = .ret (I (idxP p l 0)) ∧ H' = H) := by
  refine acalls_tidy (acalls_of_vc (hn := fun _ => false) (od := fun _ => none) Try.func117 rfl (by kernel_rfl) ?_)
  simp -dsimp
  refine loop_rule (hn := fun _ => false) (od := fun _ => none) (fun (i : Nat) f H' => H' = H ∧ f 0 = .vs 4 (l.map fun x => x.cells) ∧ f 1 = .fn (.func g) [] cap ∧ f 7 = I l.length ∧ f 8 = I i ∧ i ≤ l.length ∧ idxP p (l.drop i) i = idxP p l 0) (fun i => l.length - i) (by kernel_rfl) 0 (by simp) ?_
  rintro i f H' ⟨rfl, h0, h1, h7, h8, hi, hinv⟩
  simp -dsimp [h0, h1, h7, h8]
  refine condVW_introD (fun hlt => ?_) (fun hlt => ?_)
  · rw [drop_cons hlt, idxP] at hinv
    have hx := hg l[i] (List.getElem_mem hlt)
    try simp only [Vr.cells, Fc.cells] at hx
    simp -dsimp [h0, h1, h7, h8, List.getElem?_eq_getElem, hlt, hok]
    refine acallsW_det hx ?_
    simp -dsimp
    refine condVW_intro (fun hp => ?_) (fun hp => ?_)
    · simp -dsimp
      rw [if_pos hp] at hinv
      exact tidy_now rfl ⟨by rw [hinv], rfl⟩
    · simp -dsimp [h0, h1, h7, h8]
      rw [if_neg (by simp [hp])] at hinv
      exact ⟨i + 1, by omega, wrapS (by omega), by omega, by simpa using hinv⟩
  · simp -dsimp
    rw [drop_end hlt, idxP] at hinv
    exact tidy_now rfl ⟨by rw [hinv], rfl⟩
theorem pick_containsF (l : List Pk) (p : Pk → Bool) (g : FuncId) (cap : List AV) (hok : okFn Try.prog g = true) (hl : l.length ≤ 2^40) (H : List Blk) (hg : ∀ x ∈ l, ACalls Try.prog g (.agg x.cells :: cap) H (fun e H' => e = .ret (Bo (p x)) ∧ H' = H)) :
    ACalls Try.prog 68 [.vs 4 (l.map fun x => x.cells), .fn (.func g) [] cap] H (fun e H' => e = .ret (Bo (l.any p)) ∧ H' = H) := by
  refine acalls_tidy (acalls_of_vc (hn := fun _ => false) (od := fun _ => none) Try.func68 rfl (by kernel_rfl) ?_)
  simp -dsimp
  refine acallsW_det (pick_indexF l p g cap hok hl _ hg) ?_
  simp -dsimp
  exact tidy_now rfl ⟨by rw [idxP_any _ _ _ (Int.le_refl 0)], rfl⟩
theorem picks_indexF (l : List (List Pk)) (p : (List Pk) → Bool) (g : FuncId) (cap : List AV) (hok : okFn Try.prog g = true) (hl : l.length ≤ 2^40) (H : List Blk) (hg : ∀ x ∈ l, ACalls Try.prog g (Pk.sl x :: cap) H (fun e H' => e = .ret (Bo (p x)) ∧ H' = H)) :
    ACalls Try.prog 116 [.vs 1 (l.map fun x => [Pk.sl x]), .fn (.func g) [] cap] H (fun e H' => e = .ret (I (idxP p l 0)) ∧ H' = H) := by
  refine acalls_tidy (acalls_of_vc (hn := fun _ => false) (od := fun _ => none) Try.func116 rfl (by kernel_rfl) ?_)
  simp -dsimp
  refine loop_rule (hn := fun _ => false) (od := fun _ => none) (fun (i : Nat) f H' => H' = H ∧ f 0 = .vs 1 (l.map fun x => [Pk.sl x]) ∧ f 1 = .fn (.func g) [] cap ∧ f 7 = I l.length ∧ f 8 = I i ∧ i ≤ l.length ∧ idxP p (l.drop i) i = idxP p l 0) (fun i => l.length - i) (by kernel_rfl) 0 (by simp) ?_
  rintro i f H' ⟨rfl, h0, h1, h7, h8, hi, hinv⟩
  simp -dsimp [h0, h1, h7, h8]
  refine condVW_introD (fun hlt => ?_) (fun hlt => ?_)
  · rw [drop_cons hlt, idxP] at hinv
    have hx := hg l[i] (List.getElem_mem hlt)
    try simp only [Vr.cells, Fc.cells] at hx
    simp -dsimp [h0, h1, h7, h8, List.getElem?_eq_getElem, hlt, hok]
    refine acallsW_det hx ?_
    simp -dsimp
    refine condVW_intro (fun hp => ?_) (fun hp => ?_)
    · simp -dsimp
      rw [if_pos hp] at hinv
      exact tidy_now rfl ⟨by rw [hinv], rfl⟩
    · simp -dsimp [h0, h1, h7, h8]
      rw [if_neg (by simp [hp])] at hinv
      exact ⟨i + 1, by omega, wrapS (by omega), by omega, by simpa using hinv⟩
  · simp -dsimp
    rw [drop_end hlt, idxP] at hinv
    exact tidy_now rfl ⟨by rw [hinv], rfl⟩
theorem picks_containsF (l : List (List Pk)) (p : (List Pk) → Bool) (g : FuncId) (cap : List AV) (hok : okFn Try.prog g = true) (hl : l.length ≤ 2^40) (H : List Blk) (hg : ∀ x ∈ l, ACalls Try.prog g (Pk.sl x :: cap) H (fun e H' => e = .ret (Bo (p x)) ∧ H' = H)) :
    ACalls Try.prog 66 [.vs 1 (l.map fun x => [Pk.sl x]), .fn (.func g) [] cap] H (fun e H' => e = .ret (Bo (l.any p)) ∧ H' = H) := by
  refine acalls_tidy (acalls_of_vc (hn := fun _ => false) (od := fun _ => none) Try.func66 rfl (by kernel_rfl) ?_)
  simp -dsimp
  refine acallsW_det (picks_indexF l p g cap hok hl _ hg) ?_
  simp -dsimp
  exact tidy_now rfl ⟨by rw [idxP_any _ _ _ (Int.le_refl 0)], rfl⟩
def itemP (p : Pk) : Bool := decide (p.kind = 1) || decide (p.kind = 3)
theorem itemP_ok (p : Pk) (H : List Blk) : ACalls Try.prog 69 [.agg p.cells] H (fun e H' => e = .ret (Bo (itemP p)) ∧ H' = H) := by
  refine acalls_tidy (acalls_of_vc (hn := fun _ => false) (od := fun _ => none) Try.func69 rfl (by kernel_rfl) ?_)
  have fin : ∀ b L, b = itemP p → Tidy H (fun e H' => e = .ret (Bo (itemP p)) ∧ H' = H) (.ret (Bo b)) (H ++ L) := fun b L h => by rw [h]; exact tidy_same rfl ⟨rfl, rfl⟩
  simp -dsimp
  refine guardVW_introFE (fun h => ?_) (fun h hb _ => ?_)
  · simp -dsimp [h]
    exact fin _ _ (by simp [itemP, h])
  · simp -dsimp [hb]
    refine fin _ _ ?_
    unfold itemP
    rw [decide_eq_false h, Bool.false_or]
    by_cases h3 : p.kind = 3 <;> simp [h3]
/-- Does a line pick of items? -/
def itemL (l : List Pk) : Bool := l.any itemP
theorem itemL_ok (l : List Pk) (hl : l.length ≤ 2^40) (H : List Blk) : ACalls Try.prog 67 [Pk.sl l] H (fun e H' => e = .ret (Bo (itemL l)) ∧ H' = H) := by
  refine acalls_tidy (acalls_of_vc (hn := fun _ => false) (od := fun _ => none) Try.func67 rfl (by kernel_rfl) ?_)
  simp -dsimp
  refine acallsW_det (pick_containsF l itemP 69 [] (by kernel_rfl) hl _ (fun x _ => itemP_ok x _)) ?_
  simp -dsimp
  exact tidy_now rfl ⟨rfl, rfl⟩
/-! ### The model -/
def pickG (p : Pk) : Bool := decide (1 ≤ p.kind) && decide (p.kind ≤ 4) && decide (0 ≤ p.item)
def picksT : List Pk → Bool → Int → Rw Bool
  | [], g, n => .ok g n
  | p :: l, g, n => (addR 1 n).bind fun _ n1 => picksT l (g && pickG p) n1
def linesT : List (List Pk) → Bool → Int → Rw Bool
  | [], g, n => .ok g n
  | l :: ls, g, n => (addR 1 n).bind fun _ n1 => (picksT l g n1).bind fun g2 n2 => linesT ls g2 n2
/-- How many lists a term has, by its kind. -/
def subsN (k : Int) (len : Nat) : Nat := if k = 6 then len else if k = 3 ∨ k = 7 then 2 else if k = 4 ∨ k = 5 ∨ k = 9 then 1 else 0
def kindG (k : Int) : Bool := decide (1 ≤ k) && decide (k ≤ 9)
def behindP (y : Tm) : Bool := decide (y.kind = 2) && !(y.lines.any itemL)
def behindG (t : Tm) : Bool := if t.kind = 7 ∧ t.subs.length = 2 then (t.subs[1]?.getD []).all behindP else true
mutual
def Tm.walk (deep : Nat) : Tm → Bool → Int → Rw Bool
  | .mk k ls tk subs, g, n => (addR 1 n).bind fun _ n1 => (linesT ls g n1).bind fun g2 n2 =>
      tmssGo (deep + 1) subs (g2 && kindG k && decide (subs.length = subsN k subs.length) && behindG (.mk k ls tk subs)) n2
def tmsGo (deep : Nat) : List Tm → Bool → Int → Rw Bool
  | [], g, n => .ok g n
  | x :: l, g, n => (x.walk deep g n).bind fun g2 n2 => tmsGo deep l g2 n2
def tmssGo (deep : Nat) : List (List Tm) → Bool → Int → Rw Bool
  | [], g, n => .ok g n
  | a :: l, g, n => (if 0 < a.length ∧ 512 < deep then .err 12 else tmsGo deep a g n).bind fun g2 n2 => tmssGo deep l g2 n2
end
def tmsTop (deep : Nat) (l : List Tm) (g : Bool) (n : Int) : Rw Bool := if 0 < l.length ∧ 512 < deep then .err 12 else tmsGo deep l g n
theorem Tm.walk_eq (deep : Nat) (x : Tm) (g : Bool) (n : Int) : x.walk deep g n = (addR 1 n).bind fun _ n1 => (linesT x.lines g n1).bind fun g2 n2 =>
      tmssGo (deep + 1) x.subs (g2 && kindG x.kind && decide (x.subs.length = subsN x.kind x.subs.length) && behindG x) n2 := by cases x; rw [Tm.walk]; rfl
theorem tmssGo_cons (deep : Nat) (a : List Tm) (l : List (List Tm)) (g : Bool) (n : Int) : tmssGo deep (a :: l) g n = (tmsTop deep a g n).bind fun g2 n2 => tmssGo deep l g2 n2 := by rw [tmssGo]; rfl
def termsE (t : List Tm) : Bool := match tmsTop 1 t true 0 with | .err _ => false | .ok g _ => g
abbrev bB (g : Bool) : Blk := .box 4 [Bo g]
/-- How a call that counts terms ends. -/
def TmR (res : Rw Bool) (c gb : Nat) (H : List Blk) : AE → List Blk → Prop := fun e H' =>
  match res with
  | .ok g m => e = .ret (.tup []) ∧ H' = set2 H c (cntL m) gb (bB g) ∧ 0 ≤ m ∧ m ≤ 1000000
  | .err x => e = .pan (refL x) ∧ ∃ m g, H' = set2 H c (cntL m) gb (bB g)
theorem tmW {c gb : Nat} {res : Rw Bool} {fid : FuncId} {args : List AV} {H : List Blk} {R : AE → List Blk → Prop} {w : Wit R} (h : ACalls Try.prog fid args H (TmR res c gb H))
    (hok : ∀ g m, res = .ok g m → 0 ≤ m → m ≤ 1000000 → R (.ret (.tup [])) (set2 H c (cntL m) gb (bB g))) (herr : ∀ x m g, res = .err x → R (.pan (refL x)) (set2 H c (cntL m) gb (bB g))) : ACallsW Try.prog fid args H R w := by
  refine acallsW_of h ?_
  intro e H' hr
  unfold TmR at hr
  cases res with
  | ok g m => obtain ⟨rfl, rfl, h1, h2⟩ := hr; exact hok g m rfl h1 h2
  | err x => obtain ⟨rfl, m, g, rfl⟩ := hr; exact herr x m g rfl
/-- Adding, for a walk over terms. -/
theorem add3_ok (n k : Int) (h0 : 0 ≤ n) (h1 : n ≤ 1000000) (h2 : 0 ≤ k) (h3 : k ≤ 2^50) (H : List Blk) (c : Nat) (hc : H[c]? = some (cntL n)) : ACalls Try.prog 65 [.bp c 0, I k] H (fun e H' => (addR k n = .ok () (n + k) ∧ n + k ≤ 1000000 ∧ e = .ret (.tup []) ∧ H' = H.set c (cntL (n + k))) ∨ (addR k n = .err 3 ∧ e = .pan (refL 3) ∧ H' = H.set c (cntL (n + k)))) := by
  refine (add_ok n k h0 h1 h2 h3 H c hc).mono ?_
  rintro e H' ⟨rfl, rfl⟩
  unfold addW addR
  simp only [ne_eq, not_true_eq_false, if_false]
  by_cases h : 1000000 < n + k
  · right
    rw [if_pos h, if_pos h]
    exact ⟨rfl, rfl, rfl⟩
  · left
    rw [if_neg h, if_neg h]
    exact ⟨rfl, by omega, rfl, rfl⟩
theorem add3W {n k : Int} {fid : FuncId} {args : List AV} {H : List Blk} {c : Nat} {R : AE → List Blk → Prop} {w : Wit R} (h : ACalls Try.prog fid args H (fun e H' => (addR k n = .ok () (n + k) ∧ n + k ≤ 1000000 ∧ e = .ret (.tup []) ∧ H' = H.set c (cntL (n + k))) ∨ (addR k n = .err 3 ∧ e = .pan (refL 3) ∧ H' = H.set c (cntL (n + k)))))
    (hok : addR k n = .ok () (n + k) → n + k ≤ 1000000 → R (.ret (.tup [])) (H.set c (cntL (n + k)))) (herr : addR k n = .err 3 → R (.pan (refL 3)) (H.set c (cntL (n + k)))) : ACallsW Try.prog fid args H R w := by
  refine acallsW_of h ?_
  rintro e H' (⟨a, b, rfl, rfl⟩ | ⟨a, rfl, rfl⟩)
  · exact hok a b
  · exact herr a
end Go.Proofs
namespace Go.Proofs
open Go.Mu
/-- Memory in which terms are counted, and what comes of the rest. -/
def TmM (G : Int → Bool → List Blk) (pre : List Blk) (F : Rw Bool) (rest : Bool → Int → Rw Bool) (H' : List Blk) : Prop := ∃ g n R, H' = G n g ++ (pre ++ R) ∧ 0 ≤ n ∧ n ≤ 1000000 ∧ rest g n = F
abbrev walkF (tc gb wb : Nat) : AV := .fn (.func 63) [] [.bp tc 0, .bp gb 0, .bp wb 0]
theorem twalk_ok (m : Nat) : ∀ (l : List Tm) (deep : Nat) (good : Bool) (n : Int), tmsCount l < m → tmsCount l ≤ 2^40 → deep ≤ 2^41 → 0 ≤ n → n ≤ 1000000 → ∀ (H : List Blk) (c tc gb wb : Nat), H[c]? = some (cntL n) → H[tc]? = some (.box 116 [.bp c 0]) → H[gb]? = some (bB good) → H[wb]? = some (.box 119 [walkF tc gb wb]) →
    ACalls Try.prog 63 [Tm.sl l, I deep, .bp tc 0, .bp gb 0, .bp wb 0] H (TmR (tmsTop deep l good n) c gb H) := by
  induction m with
  | zero => intro l deep good n h; omega
  | succ m ih =>
    intro l deep good n hm hc hd hn0 hn1 H c tc gb wb hcb htb hgb hwb
    refine acalls_under fun hu _ => acalls_tidy (acalls_of_awp Try.func63 rfl (by kernel_rfl) ?_)
    have hlen := tms_len l
    have hcl := lt_of_get hcb
    have hgl := lt_of_get hgb
    have htl := lt_of_get htb
    have hwl := lt_of_get hwb
    have n1 : c ≠ gb := fun e => by subst e; rw [hcb] at hgb; cases hgb
    have n2 : tc ≠ c := fun e => by subst e; rw [htb] at hcb; cases hcb
    have n3 : tc ≠ gb := fun e => by subst e; rw [htb] at hgb; cases hgb
    have n4 : wb ≠ c := fun e => by subst e; rw [hwb] at hcb; cases hcb
    have n5 : wb ≠ gb := fun e => by subst e; rw [hwb] at hgb; cases hgb
    obtain ⟨G, hG⟩ : ∃ G : Int → Bool → List Blk, G = fun n g => set2 H c (cntL n) gb (bB g) := ⟨_, rfl⟩
    have hGe : ∀ n g, G n g = set2 H c (cntL n) gb (bB g) := fun n g => by rw [hG]
    have hG0 : H = G n good := by rw [hGe, set2_same hcb hgb]
    have hGc : ∀ n g L, (G n g ++ L)[c]? = some (cntL n) := fun n g L => by rw [hGe]; exact m2_getA hcl n1 _ _ _
    have hGg : ∀ n g L, (G n g ++ L)[gb]? = some (bB g) := fun n g L => by rw [hGe]; exact m2_getB hgl _ _ _
    have hGt : ∀ n g L, (G n g ++ L)[tc]? = some (.box 116 [.bp c 0]) := fun n g L => by
      rw [hGe, List.getElem?_append_left (by simpa using htl), set2, List.getElem?_set_ne (Ne.symm n3), List.getElem?_set_ne (Ne.symm n2)]; exact htb
    have hGw : ∀ n g L, (G n g ++ L)[wb]? = some (.box 119 [walkF tc gb wb]) := fun n g L => by
      rw [hGe, List.getElem?_append_left (by simpa using hwl), set2, List.getElem?_set_ne (Ne.symm n5), List.getElem?_set_ne (Ne.symm n4)]; exact hwb
    have hGsc : ∀ n g k L, (G n g ++ L).set c (cntL k) = G k g ++ L := fun n g k L => by rw [hGe, hGe]; exact m2_setA hcl n1 _ _ _ _
    have hGsg : ∀ n g k L, (G n g ++ L).set gb (bB k) = G n k ++ L := fun n g k L => by rw [hGe, hGe]; exact m2_setB hgl _ _ _ _
    have hGs2 : ∀ n g n' g' L, set2 (G n g ++ L) c (cntL n') gb (bB g') = G n' g' ++ L := fun n g n' g' L => by rw [set2, hGsc, hGsg]
    have hGl : ∀ n g, (G n g).length = H.length := fun n g => by rw [hGe]; simp
    have hGu : ∀ n g, underH (G n g).length (G n g) = true := fun n g => by rw [hGl, hGe]; exact underH_set2 hu rfl rfl
    have hGc0 : ∀ n g, (G n g)[c]? = some (cntL n) := fun n g => by simpa using hGc n g []
    obtain ⟨F, hF⟩ : ∃ F, F = tmsTop deep l good n := ⟨_, rfl⟩
    rw [← hF]
    have fin : ∀ g n L, F = .ok g n → 0 ≤ n → n ≤ 1000000 → Tidy H (TmR F c gb H) (.ret (.tup [])) (G n g ++ L) := fun g n L h a b => by
      refine tidy_to (by rw [hGl]; exact Nat.le_refl _) (fun _ => hGu _ _) rfl ?_
      rw [h]; exact ⟨rfl, hGe _ _, a, b⟩
    have finP : ∀ e g n L, F = .err e → Tidy H (TmR F c gb H) (.pan (refL e)) (G n g ++ L) := fun e g n L h => by
      refine tidy_toP (by rw [hGl]; exact Nat.le_refl _) (fun _ => hGu _ _) rfl ?_
      rw [h]; exact ⟨rfl, n, g, hGe _ _⟩
    have a1 := fun n (h0 : 0 ≤ n) (h1 : n ≤ 1000000) H h => add3_ok n 1 h0 h1 (by omega) (by omega) H c h
    unfold tmsTop at hF
    clear hG
    -- too deep
    refine awp_cut (fun _ => false) (fun _ => none) (fun f H' => H = H' ∧ f 0 = Tm.sl l ∧ f 1 = I deep ∧ f 2 = .bp tc 0 ∧ f 3 = .bp gb 0 ∧ f 4 = .bp wb 0 ∧ F = tmsGo deep l good n ∧ (l = [] ∨ deep ≤ 512)) (by kernel_rfl) ?_ ?_
    · simp -dsimp
      refine guardVW_introTD (fun h1 => ?_) (fun h1 => ?_)
      · simp -dsimp [h1]
        refine condVW_introD (fun h2 => ?_) (fun h2 => ?_)
        · simp -dsimp
          refine acallsW_of (leave_ok 12 _) ?_
          rintro _ _ ⟨rfl, rfl⟩
          simp -dsimp
          rw [if_pos ⟨by omega, by omega⟩] at hF
          have := finP 12 good n [] hF
          simpa [← hG0] using this
        · simp -dsimp
          rw [if_neg (by omega)] at hF
          exact ⟨hF, .inr (by omega)⟩
      · simp -dsimp [h1]
        rw [if_neg (by omega)] at hF
        exact ⟨hF, .inl (List.eq_nil_of_length_eq_zero (by omega))⟩
    clear hF
    rintro g _ ⟨rfl, g0, g1, g2, g3, g4, hF, hdl⟩
    refine awp_cut (fun _ => false) (fun _ => none) (fun f H' => H = H' ∧ f 26 = Tm.sl l ∧ f 27 = I l.length ∧ f 28 = I 0 ∧ f 1 = I deep ∧ f 2 = .bp tc 0 ∧ f 3 = .bp gb 0 ∧ f 4 = .bp wb 0) (by kernel_rfl) ?_ ?_
    · simp -dsimp [g0, g1, g2, g3, g4]
    clear g g0 g1 g2 g3 g4
    rintro g _ ⟨rfl, g26, g27, g28, g1, g2, g3, g4⟩
    refine awp_block ?_
    refine awp_loopI (fun (i : Nat) f H' => TmM G [] F (tmsGo deep (l.drop i)) H' ∧ f 26 = Tm.sl l ∧ f 27 = I l.length ∧ f 28 = I i ∧ f 1 = I deep ∧ f 2 = .bp tc 0 ∧ f 3 = .bp gb 0 ∧ f 4 = .bp wb 0 ∧ i ≤ l.length) (fun i => l.length - i) 0
      ⟨⟨good, n, [], by rw [← hG0]; simp, hn0, hn1, hF.symm⟩, g26, g27, g28, g1, g2, g3, g4, by omega⟩ ?_
    clear g g26 g27 g28 g1 g2 g3 g4 hF hn0 hn1 hgb hG0 hcb
    rintro i g _ ⟨⟨good, n, L, rfl, hn0, hn1, hrest⟩, g26, g27, g28, g1, g2, g3, g4, hi⟩
    rw [List.nil_append]
    refine awp_cut (fun _ => false) (fun _ => none) (fun f H' => H' = G n good ++ L ∧ f 26 = Tm.sl l ∧ f 27 = I l.length ∧ f 28 = I i ∧ f 1 = I deep ∧ f 2 = .bp tc 0 ∧ f 3 = .bp gb 0 ∧ f 4 = .bp wb 0 ∧ f 29 = Bo (decide ((i : Int) < l.length))) (by kernel_rfl) ?_ ?_
    · simp -dsimp [g26, g27, g28, g1, g2, g3, g4]
    clear g g26 g27 g28 g1 g2 g3 g4
    rintro g _ ⟨rfl, g26, g27, g28, g1, g2, g3, g4, g29⟩
    refine awp_cut (fun _ => false) (fun _ => none) (fun f H' => H' = G n good ++ L ∧ f 26 = Tm.sl l ∧ f 27 = I l.length ∧ f 28 = I i ∧ f 1 = I deep ∧ f 2 = .bp tc 0 ∧ f 3 = .bp gb 0 ∧ f 4 = .bp wb 0 ∧ i < l.length) (by kernel_rfl) ?_ ?_
    · simp -dsimp [g29]
      refine condVW_introD (fun hlt => ?_) (fun hlt => ?_)
      · simp -dsimp [g26, g27, g28, g1, g2, g3, g4]
        omega
      · rw [drop_end (by omega), tmsGo] at hrest
        simp -dsimp
        exact fin _ _ _ hrest.symm hn0 hn1
    clear g g26 g27 g28 g1 g2 g3 g4 g29
    rintro g _ ⟨rfl, g26, g27, g28, g1, g2, g3, g4, hlt⟩
    have hd512 : deep ≤ 512 := by
      rcases hdl with rfl | h
      · simp at hlt
      · exact h
    rw [drop_cons hlt, tmsGo, Tm.walk_eq] at hrest
    have hgx := tms_get hlt
    have hlx : l[i]? = some l[i] := List.getElem?_eq_getElem hlt
    obtain ⟨x, hx⟩ : ∃ x, x = l[i] := ⟨_, rfl⟩
    rw [← hx] at hrest hgx hlx
    clear hx
    have hcx := Tm.count_eq x
    have hls := tmss_len x.subs
    have hpl := pk_len x.lines
    obtain ⟨K, hK⟩ : ∃ K : Bool → Int → Rw Bool, K = fun g2 n2 => tmsGo deep (l.drop (i + 1)) g2 n2 := ⟨_, rfl⟩
    rw [← hK] at hrest
    refine awp_cutA (fun f H' => TmM G [] F K H' ∧ f 26 = Tm.sl l ∧ f 27 = I l.length ∧ f 28 = I i ∧ f 1 = I deep ∧ f 2 = .bp tc 0 ∧ f 3 = .bp gb 0 ∧ f 4 = .bp wb 0) ?_ ?_
    rotate_left
    · clear g g26 g27 g28 g1 g2 g3 g4
      rintro g H' ⟨ho, g26, g27, g28, g1, g2, g3, g4⟩
      rw [hK] at ho
      replace ho := Hid.mk ho
      refine awp_all (fun _ => false) (fun _ => none) (by kernel_rfl) ?_
      simp -dsimp [g26, g27, g28, g1, g2, g3, g4]
      exact ⟨i + 1, by omega, ho.out, wrapS (by omega), by omega⟩
    refine awp_block ?_
    clear hK
    obtain ⟨xB, hxB⟩ : ∃ xB, xB = Blk.box 76 [I x.kind, Pk.sls x.lines, Bo x.taken, Tm.sls x.subs] := ⟨_, rfl⟩
    obtain ⟨hx, hhx⟩ : ∃ hx, hx = H.length + L.length := ⟨_, rfl⟩
    have hgX : ∀ n g R, (G n g ++ (L ++ xB :: R))[hx]? = some (.box 76 [I x.kind, Pk.sls x.lines, Bo x.taken, Tm.sls x.subs]) := fun n g R => by
      rw [hhx, ← hGl n g, List.getElem?_append_right (by omega), Nat.add_sub_cancel_left, List.getElem?_append_right (Nat.le_refl _), Nat.sub_self, ← hxB]; rfl
    refine awp_cut (fun _ => false) (fun _ => none) (fun f H' => H' = G n good ++ (L ++ [xB]) ∧ f 26 = Tm.sl l ∧ f 27 = I l.length ∧ f 28 = I i ∧ f 1 = I deep ∧ f 2 = .bp tc 0 ∧ f 3 = .bp gb 0 ∧ f 4 = .bp wb 0 ∧ f 8 = .bp hx 0) (by kernel_rfl) ?_ ?_
    · rw [hxB, hhx]
      simp -dsimp [g26, g27, g28, g1, g2, g3, g4, hlx, hGl]
    clear g g26 g27 g28 g1 g2 g3 g4
    rintro g _ ⟨rfl, g26, g27, g28, g1, g2, g3, g4, g8⟩
    -- it is counted
    refine awp_cut (fun _ => false) (fun _ => none) (fun f H' => H' = G (n + 1) good ++ (L ++ [xB]) ∧ addR 1 n = .ok () (n + 1) ∧ f 26 = Tm.sl l ∧ f 27 = I l.length ∧ f 28 = I i ∧ f 1 = I deep ∧ f 2 = .bp tc 0 ∧ f 3 = .bp gb 0 ∧ f 4 = .bp wb 0 ∧ f 8 = .bp hx 0) (by kernel_rfl) ?_ ?_
    · simp -dsimp [g26, g27, g28, g1, g2, g3, g4, g8, hGt]
      refine add3W (a1 n hn0 hn1 _ (hGc _ _ _)) (fun hA hB => ?_) (fun hA => ?_)
      · rw [hGsc]
        simp -dsimp [g26, g27, g28, g1, g2, g3, g4, g8]
        exact hA
      · rw [hA] at hrest
        rw [hGsc]
        simp -dsimp
        exact finP _ _ _ _ hrest.symm
    clear g g26 g27 g28 g1 g2 g3 g4 g8
    rintro g _ ⟨rfl, hA, g26, g27, g28, g1, g2, g3, g4, g8⟩
    obtain ⟨_, hn2⟩ := addR_ok hA
    rw [hA, Rw.bind_ok] at hrest
    obtain ⟨n', hn'⟩ : ∃ n', n' = n + 1 := ⟨_, rfl⟩
    rw [← hn'] at hrest hn2 ⊢
    have hn0' : 0 ≤ n' := by omega
    clear hA hn0 hn1
    obtain ⟨Q, hQ⟩ : ∃ Q : Bool → Bool, Q = fun g2 => g2 && kindG x.kind && decide (x.subs.length = subsN x.kind x.subs.length) && behindG x := ⟨_, rfl⟩
    obtain ⟨K1, hK1⟩ : ∃ K1 : Bool → Int → Rw Bool, K1 = fun g2 n2 => (tmssGo (deep + 1) x.subs (Q g2) n2).bind K := ⟨_, rfl⟩
    have hrest1 : (linesT x.lines good n').bind K1 = F := by
      rw [← hrest, hK1, hQ]
      cases linesT x.lines good n' <;> rfl
    clear hrest
    -- its lines
    refine awp_cutA (fun f H' => TmM G (L ++ [xB]) F K1 H' ∧ f 26 = Tm.sl l ∧ f 27 = I l.length ∧ f 28 = I i ∧ f 1 = I deep ∧ f 2 = .bp tc 0 ∧ f 3 = .bp gb 0 ∧ f 4 = .bp wb 0 ∧ f 8 = .bp hx 0) ?_ ?_
    · refine awp_cut (fun _ => false) (fun _ => none) (fun f H' => H' = G n' good ++ (L ++ [xB]) ∧ f 35 = Pk.sls x.lines ∧ f 36 = I x.lines.length ∧ f 37 = I 0 ∧ f 26 = Tm.sl l ∧ f 27 = I l.length ∧ f 28 = I i ∧ f 1 = I deep ∧ f 2 = .bp tc 0 ∧ f 3 = .bp gb 0 ∧ f 4 = .bp wb 0 ∧ f 8 = .bp hx 0) (by kernel_rfl) ?_ ?_
      · simp -dsimp [g26, g27, g28, g1, g2, g3, g4, g8, hgX]
      clear g g26 g27 g28 g1 g2 g3 g4 g8
      rintro g _ ⟨rfl, g35, g36, g37, g26, g27, g28, g1, g2, g3, g4, g8⟩
      refine awp_block ?_
      refine awp_loopI (fun (j : Nat) f H' => TmM G (L ++ [xB]) F (fun g n => (linesT (x.lines.drop j) g n).bind K1) H' ∧ f 35 = Pk.sls x.lines ∧ f 36 = I x.lines.length ∧ f 37 = I j ∧ (f 26 = Tm.sl l ∧ f 27 = I l.length ∧ f 28 = I i ∧ f 1 = I deep ∧ f 2 = .bp tc 0 ∧ f 3 = .bp gb 0 ∧ f 4 = .bp wb 0 ∧ f 8 = .bp hx 0) ∧ j ≤ x.lines.length) (fun j => x.lines.length - j) 0
        ⟨⟨good, n', [], by simp, hn0', hn2, hrest1⟩, g35, g36, g37, ⟨g26, g27, g28, g1, g2, g3, g4, g8⟩, by omega⟩ ?_
      clear g g35 g36 g37 g26 g27 g28 g1 g2 g3 g4 g8 hrest1 hn0' hn2 hn'
      rintro j g _ ⟨⟨good, n, R, rfl, hn0, hn1, hrest⟩, g35, g36, g37, ⟨g26, g27, g28, g1, g2, g3, g4, g8⟩, hj⟩
      replace hrest : (linesT (x.lines.drop j) good n).bind K1 = F := hrest
      rw [show (L ++ [xB]) ++ R = L ++ xB :: R by simp]
      refine awp_cut (fun _ => false) (fun _ => none) (fun f H' => H' = G n good ++ (L ++ xB :: R) ∧ f 35 = Pk.sls x.lines ∧ f 36 = I x.lines.length ∧ f 37 = I j ∧ f 26 = Tm.sl l ∧ f 27 = I l.length ∧ f 28 = I i ∧ f 1 = I deep ∧ f 2 = .bp tc 0 ∧ f 3 = .bp gb 0 ∧ f 4 = .bp wb 0 ∧ f 8 = .bp hx 0 ∧ f 38 = Bo (decide ((j : Int) < x.lines.length))) (by kernel_rfl) ?_ ?_
      · simp -dsimp [g35, g36, g37, g26, g27, g28, g1, g2, g3, g4, g8]
      clear g g35 g36 g37 g26 g27 g28 g1 g2 g3 g4 g8
      rintro g _ ⟨rfl, g35, g36, g37, g26, g27, g28, g1, g2, g3, g4, g8, g38⟩
      refine awp_cut (fun _ => false) (fun _ => none) (fun f H' => H' = G n good ++ (L ++ xB :: R) ∧ f 35 = Pk.sls x.lines ∧ f 36 = I x.lines.length ∧ f 37 = I j ∧ f 26 = Tm.sl l ∧ f 27 = I l.length ∧ f 28 = I i ∧ f 1 = I deep ∧ f 2 = .bp tc 0 ∧ f 3 = .bp gb 0 ∧ f 4 = .bp wb 0 ∧ f 8 = .bp hx 0 ∧ j < x.lines.length) (by kernel_rfl) ?_ ?_
      · simp -dsimp [g38]
        refine condVW_introD (fun hjt => ?_) (fun hjt => ?_)
        · simp -dsimp [g35, g36, g37, g26, g27, g28, g1, g2, g3, g4, g8]
          omega
        · have h1 : x.lines.drop j = [] := List.drop_eq_nil_of_le (by omega)
          rw [h1, linesT] at hrest
          simp -dsimp [g26, g27, g28, g1, g2, g3, g4, g8]
          exact ⟨good, n, R, by simp, hn0, hn1, hrest⟩
      clear g g35 g36 g37 g26 g27 g28 g1 g2 g3 g4 g8 g38
      rintro g _ ⟨rfl, g35, g36, g37, g26, g27, g28, g1, g2, g3, g4, g8, hjt⟩
      rw [drop_cons hjt, linesT] at hrest
      have hgl2 := pk_get hjt
      have hlj : x.lines[j]? = some x.lines[j] := List.getElem?_eq_getElem hjt
      obtain ⟨pl, hpl2⟩ : ∃ pl, pl = x.lines[j] := ⟨_, rfl⟩
      rw [← hpl2] at hrest hgl2 hlj
      clear hpl2
      obtain ⟨K2, hK2⟩ : ∃ K2 : Bool → Int → Rw Bool, K2 = fun g n => (linesT (x.lines.drop (j + 1)) g n).bind K1 := ⟨_, rfl⟩
      refine awp_cutA (fun f H' => TmM G (L ++ [xB]) F K2 H' ∧ f 35 = Pk.sls x.lines ∧ f 36 = I x.lines.length ∧ f 37 = I j ∧ f 26 = Tm.sl l ∧ f 27 = I l.length ∧ f 28 = I i ∧ f 1 = I deep ∧ f 2 = .bp tc 0 ∧ f 3 = .bp gb 0 ∧ f 4 = .bp wb 0 ∧ f 8 = .bp hx 0) ?_ ?_
      rotate_left
      · clear g g35 g36 g37 g26 g27 g28 g1 g2 g3 g4 g8
        rintro g H' ⟨ho, g35, g36, g37, g26, g27, g28, g1, g2, g3, g4, g8⟩
        rw [hK2] at ho
        replace ho := Hid.mk ho
        refine awp_all (fun _ => false) (fun _ => none) (by kernel_rfl) ?_
        simp -dsimp [g35, g36, g37, g26, g27, g28, g1, g2, g3, g4, g8]
        exact ⟨j + 1, by omega, ho.out, wrapS (by omega), by omega⟩
      refine awp_block ?_
      refine awp_cut (fun _ => false) (fun _ => none) (fun f H' => H' = G n good ++ (L ++ xB :: R) ∧ f 35 = Pk.sls x.lines ∧ f 36 = I x.lines.length ∧ f 37 = I j ∧ f 26 = Tm.sl l ∧ f 27 = I l.length ∧ f 28 = I i ∧ f 1 = I deep ∧ f 2 = .bp tc 0 ∧ f 3 = .bp gb 0 ∧ f 4 = .bp wb 0 ∧ f 8 = .bp hx 0 ∧ f 10 = Pk.sl pl) (by kernel_rfl) ?_ ?_
      · simp -dsimp [g35, g36, g37, g26, g27, g28, g1, g2, g3, g4, g8, hlj]
      clear g g35 g36 g37 g26 g27 g28 g1 g2 g3 g4 g8
      rintro g _ ⟨rfl, g35, g36, g37, g26, g27, g28, g1, g2, g3, g4, g8, g10⟩
      refine awp_cut (fun _ => false) (fun _ => none) (fun f H' => H' = G (n + 1) good ++ (L ++ xB :: R) ∧ addR 1 n = .ok () (n + 1) ∧ f 35 = Pk.sls x.lines ∧ f 36 = I x.lines.length ∧ f 37 = I j ∧ f 26 = Tm.sl l ∧ f 27 = I l.length ∧ f 28 = I i ∧ f 1 = I deep ∧ f 2 = .bp tc 0 ∧ f 3 = .bp gb 0 ∧ f 4 = .bp wb 0 ∧ f 8 = .bp hx 0 ∧ f 10 = Pk.sl pl) (by kernel_rfl) ?_ ?_
      · simp -dsimp [g35, g36, g37, g26, g27, g28, g1, g2, g3, g4, g8, g10, hGt]
        refine add3W (a1 n hn0 hn1 _ (hGc _ _ _)) (fun hA hB => ?_) (fun hA => ?_)
        · rw [hGsc]
          simp -dsimp [g35, g36, g37, g26, g27, g28, g1, g2, g3, g4, g8, g10]
          exact hA
        · rw [hA] at hrest
          rw [hGsc]
          simp -dsimp
          exact finP _ _ _ _ hrest.symm
      clear g g35 g36 g37 g26 g27 g28 g1 g2 g3 g4 g8 g10
      rintro g _ ⟨rfl, hA, g35, g36, g37, g26, g27, g28, g1, g2, g3, g4, g8, g10⟩
      obtain ⟨_, hn2⟩ := addR_ok hA
      have hrest2 : (picksT pl good (n + 1)).bind K2 = F := by
        rw [← hrest, hA, hK2]
        simp only [Rw.bind_ok]
        cases picksT pl good (n + 1) <;> rfl
      clear hrest hA hK2
      -- its picks
      refine awp_all (fun _ => false) (fun _ => none) (by kernel_rfl) ?_
      simp -dsimp [g35, g36, g37, g26, g27, g28, g1, g2, g3, g4, g8, g10]
      refine loop_rule (hn := fun _ => false) (od := fun _ => none) (fun (k : Nat) f H' => TmM G (L ++ [xB]) F (fun g n => (picksT (pl.drop k) g n).bind K2) H' ∧ f 35 = Pk.sls x.lines ∧ f 36 = I x.lines.length ∧ f 37 = I j ∧ f 26 = Tm.sl l ∧ f 27 = I l.length ∧ f 28 = I i ∧ f 1 = I deep ∧ f 2 = .bp tc 0 ∧ f 3 = .bp gb 0 ∧ f 4 = .bp wb 0 ∧ f 8 = .bp hx 0 ∧ f 43 = Pk.sl pl ∧ f 44 = I pl.length ∧ f 45 = I k ∧ k ≤ pl.length) (fun k => pl.length - k) (by kernel_rfl) 0 (by
        simp [g35, g36, g37, g26, g27, g28, g1, g2, g3, g4, g8, g10]
        exact ⟨good, n + 1, R, by simp, by omega, by omega, hrest2⟩) ?_
      clear g g35 g36 g37 g26 g27 g28 g1 g2 g3 g4 g8 g10 hrest2 hn0 hn1 hn2
      rintro k g _ ⟨⟨good, n, R, rfl, hn0, hn1, hrest⟩, g35, g36, g37, g26, g27, g28, g1, g2, g3, g4, g8, g43, g44, g45, hk⟩
      replace hrest : (picksT (pl.drop k) good n).bind K2 = F := hrest
      rw [show (L ++ [xB]) ++ R = L ++ xB :: R by simp]
      simp -dsimp [g35, g36, g37, g26, g27, g28, g1, g2, g3, g4, g8, g43, g44, g45]
      refine condVW_introD (fun hkt => ?_) (fun hkt => ?_)
      · rw [drop_cons hkt, picksT] at hrest
        have hlk : pl[k]? = some pl[k] := List.getElem?_eq_getElem hkt
        obtain ⟨q, hq⟩ : ∃ q, q = pl[k] := ⟨_, rfl⟩
        rw [← hq] at hrest hlk
        clear hq
        simp -dsimp [g35, g36, g37, g26, g27, g28, g1, g2, g3, g4, g8, g43, g44, g45, hlk, hGt]
        refine add3W (a1 n hn0 hn1 _ (hGc _ _ _)) (fun hA hB => ?_) (fun hA => ?_)
        rotate_left
        · rw [hA] at hrest
          rw [hGsc]
          simp -dsimp
          exact finP _ _ _ _ hrest.symm
        rw [hA] at hrest
        simp only [Rw.bind_ok] at hrest
        rw [hGsc]
        have done : ∀ (g' : Bool) (R : List Blk), g' = (good && pickG q) → TmM G (L ++ [xB]) F (fun g n => (picksT (pl.drop (k + 1)) g n).bind K2) (G (n + 1) g' ++ (L ++ xB :: R)) := fun g' R h => ⟨g', n + 1, R, by simp, by omega, by omega, by rw [h]; exact hrest⟩
        have hgP : ∀ n g (R : List Blk) B, (G n g ++ (L ++ xB :: (R ++ [B])))[H.length + (L.length + (R.length + 1))]? = some B := fun n g R B => by
          rw [← hGl n g]; simp
        have fin3 : ∀ (g' : Bool) (R : List Blk), g' = (good && pickG q) → ∃ y, pl.length - y < pl.length - k ∧ TmM G (L ++ [xB]) F (fun g n => (picksT (pl.drop y) g n).bind K2) (G (n + 1) g' ++ (L ++ xB :: R)) ∧ IntKind.i64.wrap ((k : Int) + 1) = (y : Int) ∧ y ≤ pl.length := fun g' R h => ⟨k + 1, by omega, done g' R h, wrapS (by omega), by omega⟩
        cases good
        · simp -dsimp [g35, g36, g37, g26, g27, g28, g1, g2, g3, g4, g8, g43, g44, g45, hGg, hGl, hgP, hGsg]
          exact fin3 false _ rfl
        · simp -dsimp [g35, g36, g37, g26, g27, g28, g1, g2, g3, g4, g8, g43, g44, g45, hGg, hGl, hgP, hGsg]
          refine guardVW_introTD (fun h1 => ?_) (fun h1 => ?_)
          · simp -dsimp [g35, g36, g37, g26, g27, g28, g1, g2, g3, g4, g8, g43, g44, g45, hGg, hGl, hgP, hGsg, h1]
            refine guardVW_introTD (fun h2 => ?_) (fun h2 => ?_)
            · simp -dsimp [g35, g36, g37, g26, g27, g28, g1, g2, g3, g4, g8, g43, g44, g45, hGg, hGl, hgP, hGsg, h1, h2]
              by_cases h3 : 0 ≤ q.item
              · simp -dsimp [g35, g36, g37, g26, g27, g28, g1, g2, g3, g4, g8, g43, g44, g45, hGg, hGl, hgP, hGsg, h3]
                exact fin3 true _ (by simp [pickG, h1, h2, h3])
              · simp -dsimp [g35, g36, g37, g26, g27, g28, g1, g2, g3, g4, g8, g43, g44, g45, hGg, hGl, hgP, hGsg, h3]
                exact fin3 false _ (by simp [pickG, h1, h2, h3])
            · simp -dsimp [g35, g36, g37, g26, g27, g28, g1, g2, g3, g4, g8, g43, g44, g45, hGg, hGl, hgP, hGsg, h1, h2]
              exact fin3 false _ (by simp [pickG, h1, h2])
          · simp -dsimp [g35, g36, g37, g26, g27, g28, g1, g2, g3, g4, g8, g43, g44, g45, hGg, hGl, hgP, hGsg, h1]
            exact fin3 false _ (by simp [pickG, h1])
      · have h1 : pl.drop k = [] := List.drop_eq_nil_of_le (by omega)
        rw [h1, picksT] at hrest
        simp -dsimp [g35, g36, g37, g26, g27, g28, g1, g2, g3, g4, g8]
        exact ⟨good, n, R, by simp, hn0, hn1, hrest⟩
    clear g g26 g27 g28 g1 g2 g3 g4 g8 hrest1 hn0' hn2 hn'
    rintro g _ ⟨⟨good, n, R, rfl, hn0, hn1, hrest⟩, g26, g27, g28, g1, g2, g3, g4, g8⟩
    replace hrest : (tmssGo (deep + 1) x.subs (Q good) n).bind K = F := by rw [← hrest, hK1]
    clear hK1
    rw [show (L ++ [xB]) ++ R = L ++ xB :: R by simp]
    refine awp_cut (fun _ => false) (fun _ => none) (fun f H' => H' = G n good ++ (L ++ xB :: R) ∧ f 26 = Tm.sl l ∧ f 27 = I l.length ∧ f 28 = I i ∧ f 1 = I deep ∧ f 2 = .bp tc 0 ∧ f 3 = .bp gb 0 ∧ f 4 = .bp wb 0 ∧ f 8 = .bp hx 0 ∧ f 13 = I 0) (by kernel_rfl) ?_ ?_
    · simp -dsimp [g26, g27, g28, g1, g2, g3, g4, g8]
    clear g g26 g27 g28 g1 g2 g3 g4 g8
    rintro g _ ⟨rfl, g26, g27, g28, g1, g2, g3, g4, g8, g13⟩
    -- how many lists
    refine awp_cut (fun _ => false) (fun _ => none) (fun f H' => H' = G n (good && kindG x.kind) ++ (L ++ xB :: R) ∧ f 26 = Tm.sl l ∧ f 27 = I l.length ∧ f 28 = I i ∧ f 1 = I deep ∧ f 2 = .bp tc 0 ∧ f 3 = .bp gb 0 ∧ f 4 = .bp wb 0 ∧ f 8 = .bp hx 0 ∧ f 13 = I (subsN x.kind x.subs.length)) (by kernel_rfl) ?_ ?_
    · by_cases hk : 1 ≤ x.kind ∧ x.kind ≤ 9
      · have hkg : kindG x.kind = true := by simp [kindG, hk]
        rw [hkg, Bool.and_true]
        have hcase : x.kind = 1 ∨ x.kind = 2 ∨ x.kind = 3 ∨ x.kind = 4 ∨ x.kind = 5 ∨ x.kind = 6 ∨ x.kind = 7 ∨ x.kind = 8 ∨ x.kind = 9 := by omega
        rcases hcase with h | h | h | h | h | h | h | h | h
        all_goals
          simp -dsimp [g26, g27, g28, g1, g2, g3, g4, g8, g13, hgX, h]
          try simp [subsN, h]
          try rfl
      · have hkg : kindG x.kind = false := by simp [kindG]; omega
        have hne : ∀ k : Int, 1 ≤ k → k ≤ 9 → (x.kind == k) = false := fun k a b => by simp; omega
        have hsn : subsN x.kind x.subs.length = 0 := by
          unfold subsN
          rw [if_neg (by omega), if_neg (by omega), if_neg (by omega)]
        rw [hkg, Bool.and_false, hsn]
        simp -dsimp [g26, g27, g28, g1, g2, g3, g4, g8, g13, hgX, hne 1 (by omega) (by omega), hne 2 (by omega) (by omega), hne 3 (by omega) (by omega), hne 4 (by omega) (by omega), hne 5 (by omega) (by omega), hne 6 (by omega) (by omega), hne 7 (by omega) (by omega), hne 8 (by omega) (by omega), hne 9 (by omega) (by omega), hGg, hGsg]
    clear g g26 g27 g28 g1 g2 g3 g4 g8 g13
    rintro g _ ⟨rfl, g26, g27, g28, g1, g2, g3, g4, g8, g13⟩
    obtain ⟨good2, hg2⟩ : ∃ b, b = (good && kindG x.kind) := ⟨_, rfl⟩
    rw [← hg2]
    refine awp_cut (fun _ => false) (fun _ => none) (fun f H' => H' = G n (good2 && decide (x.subs.length = subsN x.kind x.subs.length)) ++ (L ++ xB :: R) ∧ f 26 = Tm.sl l ∧ f 27 = I l.length ∧ f 28 = I i ∧ f 1 = I deep ∧ f 2 = .bp tc 0 ∧ f 3 = .bp gb 0 ∧ f 4 = .bp wb 0 ∧ f 8 = .bp hx 0) (by kernel_rfl) ?_ ?_
    · cases good2
      · simp -dsimp [g26, g27, g28, g1, g2, g3, g4, g8, g13, hgX, hGg, hGsg]
      · by_cases hs : x.subs.length = subsN x.kind x.subs.length
        · rw [decide_eq_true hs]
          rw [← hs] at g13
          simp -dsimp [g26, g27, g28, g1, g2, g3, g4, g8, g13, hgX, hGg, hGsg]
        · rw [decide_eq_false hs]
          have hs2 : ¬ ((x.subs.length : Int) = (subsN x.kind x.subs.length : Nat)) := by omega
          have hs3 : ((x.subs.length : Int) == (subsN x.kind x.subs.length : Nat)) = false := by simpa using hs2
          simp -dsimp [g26, g27, g28, g1, g2, g3, g4, g8, g13, hgX, hGg, hGsg, hs3, hs]
    clear g g26 g27 g28 g1 g2 g3 g4 g8 g13
    rintro g _ ⟨rfl, g26, g27, g28, g1, g2, g3, g4, g8⟩
    obtain ⟨good3, hg3⟩ : ∃ b, b = (good2 && decide (x.subs.length = subsN x.kind x.subs.length)) := ⟨_, rfl⟩
    rw [← hg3]
    have hQe : Q good = (good3 && behindG x) := by rw [hQ, hg3, hg2]
    rw [hQe] at hrest
    clear hQ hQe hg3 hg2
    have hgP : ∀ n g (R : List Blk) B, (G n g ++ (L ++ xB :: (R ++ [B])))[H.length + (L.length + (R.length + 1))]? = some B := fun n g R B => by
      rw [← hGl n g]; simp
    -- what stands behind a call
    refine awp_cut (fun _ => false) (fun _ => none) (fun f H' => TmM G (L ++ [xB]) F (fun g n => (tmssGo (deep + 1) x.subs g n).bind K) H' ∧ f 26 = Tm.sl l ∧ f 27 = I l.length ∧ f 28 = I i ∧ f 1 = I deep ∧ f 2 = .bp tc 0 ∧ f 3 = .bp gb 0 ∧ f 4 = .bp wb 0 ∧ f 8 = .bp hx 0) (by kernel_rfl) ?_ ?_
    · by_cases hk : x.kind = 7 ∧ x.subs.length = 2
      · have hbg : behindG x = (x.subs[1]?.getD []).all behindP := by unfold behindG; rw [if_pos hk]
        have hs1 : x.subs[1]? = some x.subs[1] := List.getElem?_eq_getElem (by omega)
        have hg1 := tmss_get (l := x.subs) (i := 1) (by omega)
        obtain ⟨bl, hbl⟩ : ∃ bl, bl = x.subs[1] := ⟨_, rfl⟩
        rw [← hbl] at hs1 hg1
        clear hbl
        rw [hs1, Option.getD_some] at hbg
        rw [hbg] at hrest
        have hbll := tms_len bl
        have hs3 : ((x.subs.length : Int) == 2) = true := by simp; omega
        have hk1 := hk.1
        replace hk := Hid.mk hk
        simp -dsimp [g26, g27, g28, g1, g2, g3, g4, g8, hgX, hk1, hs3, hs1]
        refine loop_rule (hn := fun _ => false) (od := fun _ => none) (fun (j : Nat) f H' => TmM G (L ++ [xB]) F (fun g n => (tmssGo (deep + 1) x.subs (g && (bl.drop j).all behindP) n).bind K) H' ∧ f 26 = Tm.sl l ∧ f 27 = I l.length ∧ f 28 = I i ∧ f 1 = I deep ∧ f 2 = .bp tc 0 ∧ f 3 = .bp gb 0 ∧ f 4 = .bp wb 0 ∧ f 8 = .bp hx 0 ∧ f 111 = Tm.sl bl ∧ f 112 = I bl.length ∧ f 113 = I j ∧ j ≤ bl.length) (fun j => bl.length - j) (by kernel_rfl) 0 (by
          simp [g26, g27, g28, g1, g2, g3, g4, g8]
          exact ⟨good3, n, R, by simp, hn0, hn1, by simpa using hrest⟩) ?_
        clear g g26 g27 g28 g1 g2 g3 g4 g8 hn0 hn1 hrest
        rintro j g _ ⟨⟨good, n, R, rfl, hn0, hn1, hrest⟩, g26, g27, g28, g1, g2, g3, g4, g8, g111, g112, g113, hj⟩
        replace hrest : (tmssGo (deep + 1) x.subs (good && (bl.drop j).all behindP) n).bind K = F := hrest
        rw [show (L ++ [xB]) ++ R = L ++ xB :: R by simp]
        simp -dsimp [g26, g27, g28, g1, g2, g3, g4, g8, g111, g112, g113]
        refine condVW_introD (fun hjt => ?_) (fun hjt => ?_)
        · rw [drop_cons hjt, List.all_cons] at hrest
          have hgy := tms_get hjt
          have hlj : bl[j]? = some bl[j] := List.getElem?_eq_getElem hjt
          obtain ⟨y, hy⟩ : ∃ y, y = bl[j] := ⟨_, rfl⟩
          rw [← hy] at hrest hlj hgy
          clear hy
          have hyc := Tm.count_eq y
          have hypl := pk_len y.lines
          have cc := fun H => picks_containsF y.lines itemL 67 [] (by kernel_rfl) (by omega) H (fun z hz => itemL_ok z (by
            obtain ⟨q, hq, rfl⟩ := List.getElem_of_mem hz
            have := pk_get hq
            omega) _)
          have fin4 : ∀ (g' : Bool) (R : List Blk), g' = (good && behindP y) → ∃ z, bl.length - z < bl.length - j ∧ TmM G (L ++ [xB]) F (fun g n => (tmssGo (deep + 1) x.subs (g && (bl.drop z).all behindP) n).bind K) (G n g' ++ (L ++ xB :: R)) ∧ IntKind.i64.wrap ((j : Int) + 1) = (z : Int) ∧ z ≤ bl.length := fun g' R h =>
            ⟨j + 1, by omega, ⟨g', n, R, by simp, hn0, hn1, by rw [h, ← hrest, ← Bool.and_assoc]⟩, wrapS (by omega), by omega⟩
          simp -dsimp [g26, g27, g28, g1, g2, g3, g4, g8, g111, g112, g113, hlj, hGg, hGl]
          cases good
          · simp -dsimp [g26, g27, g28, g1, g2, g3, g4, g8, g111, g112, g113, hGg, hGl, hgP, hGsg]
            exact fin4 false _ rfl
          · simp -dsimp [g26, g27, g28, g1, g2, g3, g4, g8, g111, g112, g113, hGg, hGl, hgP, hGsg]
            refine guardVW_introTE (fun h2 => ?_) (fun h2 h2b _ => ?_)
            · simp -dsimp [g26, g27, g28, g1, g2, g3, g4, g8, g111, g112, g113, hGg, hGl, hgP, hGsg, h2]
              refine acallsW_det (cc _) ?_
              have hbp : behindP y = !(y.lines.any itemL) := by simp [behindP, h2]
              cases hany : y.lines.any itemL
              · rw [hany] at hbp
                simp -dsimp [g26, g27, g28, g1, g2, g3, g4, g8, g111, g112, g113, hGg, hGl, hgP, hGsg, h2]
                exact fin4 true _ (by rw [hbp]; rfl)
              · rw [hany] at hbp
                simp -dsimp [g26, g27, g28, g1, g2, g3, g4, g8, g111, g112, g113, hGg, hGl, hgP, hGsg, h2]
                exact fin4 false _ (by rw [hbp]; rfl)
            · simp -dsimp [g26, g27, g28, g1, g2, g3, g4, g8, g111, g112, g113, hGg, hGl, hgP, hGsg, h2b]
              exact fin4 false _ (by simp [behindP, h2])
        · have h1 : bl.drop j = [] := List.drop_eq_nil_of_le (by omega)
          rw [h1, List.all_nil, Bool.and_true] at hrest
          simp -dsimp [g26, g27, g28, g1, g2, g3, g4, g8]
          exact ⟨good, n, R, by simp, hn0, hn1, hrest⟩
      · have hbg : behindG x = true := by unfold behindG; rw [if_neg hk]
        rw [hbg, Bool.and_true] at hrest
        have fin5 : TmM G (L ++ [xB]) F (fun g n => (tmssGo (deep + 1) x.subs g n).bind K) (G n good3 ++ (L ++ xB :: R)) := ⟨good3, n, R, by simp, hn0, hn1, hrest⟩
        by_cases hk7 : x.kind = 7
        · have hs2 : ¬ x.subs.length = 2 := fun h => hk ⟨hk7, h⟩
          have hs3 : ((x.subs.length : Int) == 2) = false := by simp; omega
          simp -dsimp [g26, g27, g28, g1, g2, g3, g4, g8, hgX, hk7, hs3, hs2]
          exact fin5
        · have hk8 : (x.kind == 7) = false := by simpa using hk7
          simp -dsimp [g26, g27, g28, g1, g2, g3, g4, g8, hgX, hk8]
          exact fin5
    clear g g26 g27 g28 g1 g2 g3 g4 g8 hn0 hn1 hrest
    rintro g _ ⟨⟨good, n, R, rfl, hn0, hn1, hrest⟩, g26, g27, g28, g1, g2, g3, g4, g8⟩
    replace hrest : (tmssGo (deep + 1) x.subs good n).bind K = F := hrest
    rw [show (L ++ [xB]) ++ R = L ++ xB :: R by simp]
    have hok : okFn Try.prog 63 = true := by kernel_rfl
    have w2 : IntKind.i64.wrap ((deep : Int) + 1) = ((deep + 1 : Nat) : Int) := wrapI (by omega) (by omega)
    -- what lies within
    refine awp_all (fun _ => false) (fun _ => none) (by kernel_rfl) ?_
    simp -dsimp [g26, g27, g28, g1, g2, g3, g4, g8, hgX]
    refine loop_rule (hn := fun _ => false) (od := fun _ => none) (fun (j : Nat) f H' => TmM G [] F (fun g n => (tmssGo (deep + 1) (x.subs.drop j) g n).bind K) H' ∧ f 26 = Tm.sl l ∧ f 27 = I l.length ∧ f 28 = I i ∧ f 1 = I deep ∧ f 2 = .bp tc 0 ∧ f 3 = .bp gb 0 ∧ f 4 = .bp wb 0 ∧ f 131 = Tm.sls x.subs ∧ f 132 = I x.subs.length ∧ f 133 = I j ∧ j ≤ x.subs.length) (fun j => x.subs.length - j) (by kernel_rfl) 0 (by
      simp [g26, g27, g28, g1, g2, g3, g4, g8]
      exact ⟨good, n, _, rfl, hn0, hn1, hrest⟩) ?_
    clear g g26 g27 g28 g1 g2 g3 g4 g8 hn0 hn1 hrest hgP hgX
    clear R
    rintro j g _ ⟨⟨good, n, R, rfl, hn0, hn1, hrest⟩, g26, g27, g28, g1, g2, g3, g4, g131, g132, g133, hj⟩
    replace hrest : (tmssGo (deep + 1) (x.subs.drop j) good n).bind K = F := hrest
    rw [List.nil_append]
    simp -dsimp [g26, g27, g28, g1, g2, g3, g4, g131, g132, g133]
    refine condVW_introD (fun hjt => ?_) (fun hjt => ?_)
    · rw [drop_cons hjt, tmssGo_cons] at hrest
      have hgs := tmss_get hjt
      have hlsj : x.subs[j]? = some x.subs[j] := List.getElem?_eq_getElem hjt
      obtain ⟨a, ha⟩ : ∃ a, a = x.subs[j] := ⟨_, rfl⟩
      rw [← ha] at hrest hgs hlsj
      clear ha
      have cr := ih a (deep + 1) good n (by omega) (by omega) (by omega) hn0 hn1 (G n good ++ R) c tc gb wb (hGc _ _ _) (hGt _ _ _) (hGg _ _ _) (hGw _ _ _)
      simp -dsimp [g26, g27, g28, g1, g2, g3, g4, g131, g132, g133, hlsj, hGw, hok, w2]
      refine tmW cr (fun g' n' hA h3 h4 => ?_) (fun e n' g' hA => ?_)
      · rw [hA] at hrest
        rw [hGs2]
        simp -dsimp [g26, g27, g28, g1, g2, g3, g4, g131, g132, g133]
        exact ⟨j + 1, by omega, ⟨g', n', R, rfl, h3, h4, hrest⟩, wrapS (by omega), by omega⟩
      · rw [hA] at hrest
        rw [hGs2]
        simp -dsimp
        exact finP _ _ _ _ hrest.symm
    · have h1 : x.subs.drop j = [] := List.drop_eq_nil_of_le (by omega)
      rw [h1, tmssGo] at hrest
      simp -dsimp [g26, g27, g28, g1, g2, g3, g4]
      exact ⟨good, n, R, rfl, hn0, hn1, hrest⟩
end Go.Proofs
namespace Go.Proofs
open Go.Mu
/-- What is done, and the error by which it was left; memory is then what P tells. -/
theorem lkept2_ok (g : FuncId) (cap : List AV) (E : Int) (H : List Blk) (P : List Blk → Prop) (hok : okFn Try.prog g = true)
    (hg : ∀ L, ACalls Try.prog g cap (H ++ L) (fun e H' => ∃ H2 L', P H2 ∧ H2.length = H.length ∧ (underH H.length H = true → underH H2.length H2 = true) ∧ e = (if E = 0 then .ret (.tup []) else .pan (refL E)) ∧ H' = H2 ++ L ++ L')) : ACalls Try.prog 70 [.fn (.func g) [] cap] H (fun e H' => e = .ret (I E) ∧ P H') := by
  refine acalls_tidy (acalls_of_vcD (hn := fun _ => false) (od := fun _ => none) Try.func70 rfl (by kernel_rfl) ?_)
  simp -dsimp [hok]
  refine acallsW_of (hg _) ?_
  rintro _ _ ⟨H2, L', hP, hl, hu, rfl, rfl⟩
  have fin : ∀ L, Tidy H (fun e H' => e = .ret (I E) ∧ P H') (.ret (I E)) (H2 ++ L) := fun L => tidy_to (by rw [hl]; exact Nat.le_refl _) hu rfl ⟨rfl, hP⟩
  by_cases hz : E = 0
  · rw [if_pos hz]
    subst hz
    have hb : ∀ X : Blk, (H2 ++ X :: L')[H.length]? = some X := fun X => by rw [← hl]; simp
    have hs : ∀ X Y : Blk, (H2 ++ X :: L').set H.length Y = H2 ++ Y :: L' := fun X Y => by rw [← hl]; simp
    simp -dsimp [hb, hs]
    refine recW_of (lrec_none _ _) ?_
    rintro H' rfl
    simp -dsimp [hb]
    exact fin (.box 27 [I 0] :: L')
  · rw [if_neg hz]
    have hb : ∀ X : Blk, (H2 ++ X :: L')[H.length]? = some X := fun X => by rw [← hl]; simp
    have hs : ∀ X Y : Blk, (H2 ++ X :: L').set H.length Y = H2 ++ Y :: L' := fun X Y => by rw [← hl]; simp
    have hb2 : ∀ (X : Blk) L, (H2 ++ X :: (L' ++ L))[H.length]? = some X := fun X L => by rw [← hl]; simp
    simp -dsimp [hb]
    refine recW_of (lrec_some _ _ 0 _ (by rw [hb])) ?_
    rintro H' ⟨L, rfl⟩
    rw [hs]
    simp -dsimp [hb2]
    exact fin (.box 27 [I E] :: (L' ++ L))
/-! ### No error is none -/
def Nz {α : Type} (r : Rw α) : Prop := ∀ e, r = .err e → e ≠ 0
theorem nz_ok {α : Type} (x : α) (n : Int) : Nz (.ok x n) := fun e h => by cases h
theorem nz_err {α : Type} {e : Int} (h : e ≠ 0) : Nz (.err e : Rw α) := fun e' he => by cases he; exact h
theorem nz_bind {α β : Type} {r : Rw α} {f : α → Int → Rw β} (h : Nz r) (hf : ∀ a n, Nz (f a n)) : Nz (r.bind f) := by
  cases r with
  | err e => exact fun e' he => by cases he; exact h e rfl
  | ok a n => exact hf a n
theorem nz_pre {α : Type} {r : Rw (List α)} (d : List α) (h : Nz r) : Nz (r.pre d) := nz_bind h fun _ _ => nz_ok _ _
theorem nz_get {α β : Type} {x : Option α} {f : α → Rw β} (h : ∀ a, Nz (f a)) : Nz (Rw.get x f) := by
  cases x with
  | none => exact nz_err (by decide)
  | some a => exact h a
theorem nz_add (k n : Int) : Nz (addR k n) := by
  unfold addR
  split
  · exact nz_err (by decide)
  · exact nz_ok _ _
theorem nz_picks : ∀ (l : List Pk) (g : Bool) (n : Int), Nz (picksT l g n)
  | [], g, n => nz_ok _ _
  | p :: l, g, n => nz_bind (nz_add _ _) fun _ n => nz_picks l _ n
theorem nz_linesT : ∀ (l : List (List Pk)) (g : Bool) (n : Int), Nz (linesT l g n)
  | [], g, n => nz_ok _ _
  | p :: l, g, n => nz_bind (nz_add _ _) fun _ n => nz_bind (nz_picks _ _ _) fun g n => nz_linesT l g n
theorem nz_tms (m : Nat) : (∀ (l : List Tm), tmsCount l ≤ m → ∀ deep g n, Nz (tmsGo deep l g n)) ∧ (∀ (l : List (List Tm)), tmssCount l ≤ m → ∀ deep g n, Nz (tmssGo deep l g n)) := by
  induction m with
  | zero =>
    refine ⟨fun l hl deep g n => ?_, fun l hl deep g n => ?_⟩
    · have := tms_len l; obtain rfl : l = [] := List.eq_nil_of_length_eq_zero (by omega); rw [tmsGo]; exact nz_ok _ _
    · have := tmss_len l; obtain rfl : l = [] := List.eq_nil_of_length_eq_zero (by omega); rw [tmssGo]; exact nz_ok _ _
  | succ m ih =>
    refine ⟨fun l => ?_, fun l => ?_⟩
    · induction l with
      | nil => intro _ deep g n; rw [tmsGo]; exact nz_ok _ _
      | cons x l ihl =>
        intro hl deep g n
        simp only [tmsCount] at hl
        have hx := Tm.count_eq x
        rw [tmsGo, Tm.walk_eq]
        refine nz_bind (nz_bind (nz_add _ _) fun _ n => nz_bind (nz_linesT _ _ _) fun g n => ih.2 x.subs (by omega) _ _ _) fun g n => ihl (by omega) _ _ _
    · induction l with
      | nil => intro _ deep g n; rw [tmssGo]; exact nz_ok _ _
      | cons a l ihl =>
        intro hl deep g n
        simp only [tmssCount] at hl
        rw [tmssGo]
        refine nz_bind ?_ fun g n => ihl (by omega) _ _ _
        split
        · exact nz_err (by decide)
        · exact ih.1 a (by omega) _ _ _
theorem nz_top (l : List Tm) (deep : Nat) (g : Bool) (n : Int) : Nz (tmsTop deep l g n) := by
  unfold tmsTop
  split
  · exact nz_err (by decide)
  · exact (nz_tms _).1 l (Nat.le_refl _) _ _ _
theorem nz_lines (st : Int) (items : List Int) : ∀ (ls : List (List Pk)) (n : Int), Nz (linesM st items ls n)
  | [], n => nz_ok _ _
  | l :: ls, n => by
    rw [linesM]
    split
    · exact nz_err (by decide)
    · exact nz_bind (nz_add _ _) fun _ n => nz_pre _ (nz_lines st items ls n)
theorem nz_items (t : Tm) (x : Lk) (n : Int) : Nz (itemsM t x n) := by
  unfold itemsM
  split
  · exact nz_bind (nz_add _ _) fun _ n => nz_ok _ _
  · exact nz_bind (nz_add _ _) fun _ n => nz_ok _ _
section
variable {rec : Rec} {st : Int} {br : Bool} (hr : ∀ t deep l n, Nz (rec t deep l n))
include hr
theorem nz_loopGo (t : Tm) (deep : Nat) : ∀ (l : List Lk) (n : Int), Nz (loopGo rec st t deep l n)
  | [], n => nz_ok _ _
  | y :: l, n => nz_get fun list => nz_bind (nz_lines _ _ _ _) fun a n => nz_bind (nz_items _ _ _) fun its n => nz_bind (by
      split
      · exact nz_get fun u => hr _ _ _ _
      · exact nz_ok _ _) fun body n => nz_pre _ (nz_loopGo t deep l n)
theorem nz_roundsGo (deep : Nat) : ∀ (ts : List (List Tm)) (ss : List (List Lk)) (n : Int), Nz (roundsGo rec deep ts ss n)
  | ts, [], n => by rw [roundsGo]; exact nz_ok _ _
  | [], _ :: _, n => by rw [roundsGo]; exact nz_err (by decide)
  | u :: ts, s :: ss, n => by rw [roundsGo]; exact nz_bind (hr _ _ _ _) fun a n => nz_pre _ (nz_roundsGo deep ts ss n)
omit hr in
theorem nz_behind : ∀ (l : List Tm) (n : Int), Nz (behindGo st l n)
  | [], n => nz_ok _ _
  | y :: l, n => nz_bind (nz_lines _ _ _ _) fun a n => nz_pre _ (nz_behind l n)
theorem nz_eachGo (t : Tm) (deep : Nat) : ∀ (l : List (List Lk)) (n : Int), Nz (eachGo rec t deep l n)
  | [], n => nz_ok _ _
  | s :: l, n => nz_get fun u => nz_bind (hr _ _ _ _) fun a n => nz_pre _ (nz_eachGo t deep l n)
theorem nz_node (t : Tm) (deep : Nat) (x : Lk) (n : Int) : Nz (nodeM rec st br t deep x n) := by
  unfold nodeM
  repeat' split
  · unfold sameM
    split
    · rename_i h; exact nz_err h
    · exact nz_bind (nz_add _ _) fun _ n => nz_ok _ _
  · exact nz_lines _ _ _ _
  · refine nz_get fun list => ?_
    split
    · exact nz_err (by decide)
    · exact nz_bind (nz_lines _ _ _ _) fun out n => nz_bind (nz_items _ _ _) fun its n => nz_get fun u => nz_bind (hr _ _ _ _) fun b n => nz_ok _ _
  · refine nz_get fun list => ?_
    split
    · exact nz_err (by decide)
    · exact nz_bind (nz_lines _ _ _ _) fun out n => nz_get fun u => nz_pre _ (hr _ _ _ _)
  · exact nz_bind (nz_add _ _) fun _ n => nz_get fun l => nz_bind (nz_loopGo hr _ _ _ _) fun out n => nz_get fun _ => nz_ok _ _
  · unfold roundsM
    split
    · exact nz_err (by decide)
    · exact nz_roundsGo hr _ _ _ _
  · refine nz_get fun list => nz_get fun b => nz_bind (nz_lines _ _ _ _) fun out n => nz_get fun u => nz_bind (hr _ _ _ _) fun body n => ?_
    split
    · exact nz_ok _ _
    · exact nz_pre _ (nz_behind _ _)
  · exact nz_ok _ _
  · unfold eachM
    split
    · exact nz_err (by decide)
    · exact nz_bind (nz_add _ _) fun _ n => nz_bind (nz_eachGo hr _ _ _ _) fun ss n => nz_ok _ _
  · exact nz_err (by decide)
theorem nz_go (deep : Nat) : ∀ (ts : List Tm) (l : List Lk) (n : Int), Nz (goM rec st br deep ts l n)
  | ts, [], n => by rw [goM]; exact nz_ok _ _
  | [], _ :: _, n => by rw [goM]; exact nz_err (by decide)
  | t :: ts, x :: l, n => by rw [goM]; exact nz_bind (nz_node hr _ _ _ _) fun a n => nz_pre _ (nz_go deep ts l n)
end
theorem nz_list (st : Int) (br : Bool) : ∀ (m : Nat) t deep l n, Nz (listM st br m t deep l n)
  | 0, t, deep, l, n => nz_err (by decide)
  | m + 1, t, deep, l, n => by
    simp only [listM]
    split
    · exact nz_err (by decide)
    · exact nz_go (nz_list st br m) _ _ _ _
/-! ### Terms -/
def termsC (t : List Tm) : Int := match tmsTop 1 t true 0 with | .err e => e | .ok _ _ => 0
theorem terms2_ok (t : List Tm) (ht : tmsCount t ≤ 2^40) (H : List Blk) (c tc gb wb tb : Nat) (h1 : H[c]? = some (cntL 0)) (h2 : H[tc]? = some (.box 116 [.bp c 0])) (h3 : H[gb]? = some (bB true)) (h4 : H[wb]? = some (.box 119 [walkF tc gb wb])) (h5 : H[tb]? = some (.box 56 [Tm.sl t])) :
    ACalls Try.prog 71 [.bp wb 0, .bp tb 0] H (TmR (tmsTop 1 t true 0) c gb H) := by
  refine acalls_tidy (acalls_of_vc (hn := fun _ => false) (od := fun _ => none) Try.func71 rfl (by kernel_rfl) ?_)
  have cw := twalk_ok _ t 1 true 0 (Nat.lt_succ_self _) ht (by omega) (by omega) (by omega) H c tc gb wb h1 h2 h3 h4
  rw [show ((1 : Nat) : Int) = 1 from rfl] at cw
  have hok : okFn Try.prog 63 = true := by kernel_rfl
  have hu : ∀ n g, underH H.length H = true → underH (set2 H c (cntL n) gb (bB g)).length (set2 H c (cntL n) gb (bB g)) = true := fun n g h => by rw [set2_length]; exact underH_set2 h rfl rfl
  obtain ⟨E, hE⟩ : ∃ E, E = tmsTop 1 t true 0 := ⟨_, rfl⟩
  rw [← hE] at cw ⊢
  simp -dsimp [h4, h5, hok]
  refine tmW cw (fun g n hA a b => ?_) (fun e n g hA => ?_)
  · simp -dsimp
    have := tidy_to (H := H) (H2 := set2 H c (cntL n) gb (bB g)) (L := []) (R := TmR E c gb H) (r := .tup []) (by simp) (hu _ _) rfl (by rw [hA]; exact ⟨rfl, rfl, a, b⟩)
    simpa using this
  · simp -dsimp
    have := tidy_toP (H := H) (H2 := set2 H c (cntL n) gb (bB g)) (L := []) (R := TmR E c gb H) (r := refL e) (by simp) (hu _ _) rfl (by rw [hA]; exact ⟨rfl, n, g, rfl⟩)
    simpa using this
theorem mayTerms_ok (t : List Tm) (ht : tmsCount t ≤ 2^40) (H : List Blk) : ACalls Try.prog 23 [Tm.sl t] H (fun e H' => e = .ret (Bo (termsE t)) ∧ H' = H) := by
  refine acalls_tidy (acalls_of_vc (hn := fun _ => false) (od := fun _ => none) Try.func23 rfl (by kernel_rfl) ?_)
  obtain ⟨b5, hb5⟩ : ∃ b5, b5 = Blk.box 119 [walkF (H.length + 2) (H.length + 3) (H.length + 4)] := ⟨_, rfl⟩
  obtain ⟨N, hN⟩ : ∃ N : Int → Bool → List Blk, N = fun n g => H ++ [.box 56 [Tm.sl t], cntL n, .box 116 [.bp (H.length + 1) 0], bB g, b5] := ⟨_, rfl⟩
  have hNe : ∀ n g, N n g = H ++ [.box 56 [Tm.sl t], cntL n, .box 116 [.bp (H.length + 1) 0], bB g, b5] := fun n g => by rw [hN]
  have hN2 : ∀ n g n' g' L, set2 (N n g ++ L) (H.length + 1) (cntL n') (H.length + 3) (bB g') = N n' g' ++ L := fun n g n' g' L => by
    rw [hNe, hNe]; simp [set2]
  have ck := lkept2_ok 71 [.bp (H.length + 4) 0, .bp H.length 0] (termsC t) (N 0 true) (fun H' => ∃ n g, H' = N n g ∧ (termsC t = 0 → g = termsE t)) (by kernel_rfl) (fun L => by
    refine (terms2_ok t ht (N 0 true ++ L) (H.length + 1) (H.length + 2) (H.length + 3) (H.length + 4) H.length (by rw [hNe]; simp) (by rw [hNe]; simp) (by rw [hNe]; simp) (by rw [hNe, hb5]; simp) (by rw [hNe]; simp)).mono ?_
    intro e H' hr
    have hnz := nz_top t 1 true 0
    unfold TmR at hr
    unfold termsC termsE
    cases hc : tmsTop 1 t true 0 with
    | ok g n =>
      rw [hc] at hr
      obtain ⟨rfl, rfl, _, _⟩ := hr
      refine ⟨N n g, [], ⟨n, g, rfl, fun _ => rfl⟩, by rw [hNe, hNe]; simp, fun h => ?_, rfl, by rw [hN2]; simp⟩
      have : N n g = set2 (N 0 true) (H.length + 1) (cntL n) (H.length + 3) (bB g) := by have := hN2 0 true n g []; simpa using this.symm
      rw [this, set2_length]
      exact underH_set2 h rfl rfl
    | err x =>
      rw [hc] at hr hnz
      obtain ⟨rfl, n, g, rfl⟩ := hr
      refine ⟨N n g, [], ⟨n, g, rfl, fun h => absurd h (hnz x rfl)⟩, by rw [hNe, hNe]; simp, fun h => ?_, by simp only [if_neg (hnz x rfl)], by rw [hN2]; simp⟩
      have : N n g = set2 (N 0 true) (H.length + 1) (cntL n) (H.length + 3) (bB g) := by have := hN2 0 true n g []; simpa using this.symm
      rw [this, set2_length]
      exact underH_set2 h rfl rfl)
  have hte : termsC t ≠ 0 → termsE t = false := fun h => by
    unfold termsC at h
    unfold termsE
    cases hc : tmsTop 1 t true 0 with
    | err e => rfl
    | ok g n => rw [hc] at h; exact absurd rfl h
  have hNg : ∀ n g, (N n g)[H.length + 3]? = some (bB g) := fun n g => by rw [hNe]; simp
  obtain ⟨E, hE⟩ : ∃ E, E = termsE t := ⟨_, rfl⟩
  obtain ⟨C, hC⟩ : ∃ C, C = termsC t := ⟨_, rfl⟩
  rw [← hE] at ck hte ⊢
  rw [← hC] at ck hte
  have fin : ∀ b n g, b = E → Tidy H (fun e H' => e = .ret (Bo E) ∧ H' = H) (.ret (Bo b)) (N n g) := fun b n g h => by rw [h, hNe]; exact tidy_same rfl ⟨rfl, rfl⟩
  rw [hNe 0 true, hb5] at ck
  simp -dsimp
  refine acallsW_of ck ?_
  rintro _ _ ⟨rfl, n, g, rfl, hg⟩
  simp -dsimp
  refine guardVW_introTE (fun h1 => ?_) (fun h1 h1b _ => ?_)
  · simp -dsimp [h1, hNg]
    exact fin _ _ _ (hg h1)
  · simp -dsimp [h1b]
    exact fin _ _ _ (hte h1).symm
/-! ### Rewriting -/
def listC (st : Int) (br : Bool) (m : Nat) (t : List Tm) (l : List Lk) : Int := match listM st br m t 1 l 0 with | .err e => e | .ok _ _ => 0
def listO (st : Int) (br : Bool) (m : Nat) (t : List Tm) (l : List Lk) : List Lk := match listM st br m t 1 l 0 with | .err _ => [] | .ok out _ => out
def rewE (st : Int) (br : Bool) (m : Nat) (t : List Tm) (l : List Lk) : List Lk × Int :=
  if whyE l ≠ 0 then ([], whyE l) else if termsE t = false then ([], 2) else (listO st br m t l, listC st br m t l)
theorem rew1_ok (st : Int) (br : Bool) (m : Nat) (t : List Tm) (l : List Lk) (hm : lksCount l < m) (ht : tmsCount t ≤ 2^40) (hl : lksCount l ≤ 2^40) (H : List Blk) (rb tb lb ob r : Nat)
    (h1 : H[rb]? = some (.box 129 [.bp r 0])) (h2 : H[tb]? = some (.box 56 [Tm.sl t])) (h3 : H[lb]? = some (.box 58 [Lk.sl l])) (h4 : H[ob]? = some (.box 58 [nilS])) (h5 : H[r]? = some (rwB st br 0)) :
    ACalls Try.prog 76 [.bp rb 0, .bp tb 0, .bp lb 0, .bp ob 0] H (fun e H' => e = (if listC st br m t l = 0 then .ret (.tup []) else .pan (refL (listC st br m t l))) ∧ ∃ n v, H' = set2 H r (rwB st br n) ob (.box 58 [v]) ∧ (listC st br m t l = 0 → v = Lk.sl (listO st br m t l)) ∧ (listC st br m t l ≠ 0 → v = nilS)) := by
  refine acalls_tidy (acalls_of_vc (hn := fun _ => false) (od := fun _ => none) Try.func76 rfl (by kernel_rfl) ?_)
  have hrl := lt_of_get h5
  have hol := lt_of_get h4
  have hne : r ≠ ob := fun e => by subst e; rw [h5] at h4; cases h4
  have cr := (rec_ok st br m).ok t 1 l 0 hm hl (by omega) ht (by omega) (by omega) H r h5
  rw [show ((1 : Nat) : Int) = 1 from rfl] at cr
  have hnz := nz_list st br m t 1 l 0
  have hu : ∀ n v, AV.frzB v = true → underH H.length H = true → underH (set2 H r (rwB st br n) ob (.box 58 [v])).length (set2 H r (rwB st br n) ob (.box 58 [v])) = true := fun n v hv h => by
    rw [set2_length]; exact underH_set2 h rfl (by simp [Blk.under, underL, under_frzB _ _ hv])
  unfold listC listO
  simp -dsimp [h1, h2, h3]
  refine rwW cr (fun out n hA a b => ?_) (fun e n hA => ?_)
  · rw [hA]
    have hob : (H.set r (rwB st br n))[ob]? = some (.box 58 [nilS]) := by rw [List.getElem?_set_ne hne]; exact h4
    simp -dsimp [hob]
    have := tidy_to (H := H) (H2 := set2 H r (rwB st br n) ob (.box 58 [Lk.sl out])) (L := []) (R := fun e H' => e = .ret (.tup []) ∧ ∃ n v, H' = set2 H r (rwB st br n) ob (.box 58 [v]) ∧ v = Lk.sl out) (r := .tup []) (by simp) (hu _ _ rfl) rfl ⟨rfl, n, _, rfl, rfl⟩
    simpa [set2] using this
  · rw [hA] at hnz ⊢
    simp -dsimp [hnz e rfl]
    have hob : (H.set r (rwB st br n))[ob]? = some (.box 58 [nilS]) := by rw [List.getElem?_set_ne hne]; exact h4
    have hse : H.set r (rwB st br n) = set2 H r (rwB st br n) ob (.box 58 [nilS]) := by rw [set2, set_same hob]
    rw [hse]
    have := tidy_toP (H := H) (H2 := set2 H r (rwB st br n) ob (.box 58 [nilS])) (L := []) (R := fun e_1 H' => e_1 = .pan (refL e) ∧ ∃ n, H' = set2 H r (rwB st br n) ob (.box 58 [nilS])) (r := refL e) (by simp) (hu _ _ rfl) rfl ⟨rfl, n, rfl⟩
    simpa using this
theorem rewrite_ok (st : Int) (br : Bool) (m : Nat) (t : List Tm) (l : List Lk) (hm : lksCount l < m) (ht : tmsCount t ≤ 2^40) (hl : lksCount l ≤ 2^40) (H : List Blk) :
    ACalls Try.prog 26 [Tm.sl t, Lk.sl l, U st, Bo br] H (fun e H' => e = .ret (.tup [Lk.sl (rewE st br m t l).1, I (rewE st br m t l).2]) ∧ H' = H) := by
  refine acalls_tidy (acalls_weakE (acalls_of_vc (hn := fun _ => false) (od := fun _ => none) Try.func26 rfl (by kernel_rfl) ?_))
  obtain ⟨b3, hb3⟩ : ∃ b3, b3 = Blk.box 129 [.bp (H.length + 2) 0] := ⟨_, rfl⟩
  obtain ⟨N, hN⟩ : ∃ N : Int → AV → List Blk, N = fun n v => H ++ [.box 56 [Tm.sl t], .box 58 [Lk.sl l], rwB st br n, b3, .box 58 [v]] := ⟨_, rfl⟩
  have hNe : ∀ n v, N n v = H ++ [.box 56 [Tm.sl t], .box 58 [Lk.sl l], rwB st br n, b3, .box 58 [v]] := fun n v => by rw [hN]
  have hN2 : ∀ n v n' v' L, set2 (N n v ++ L) (H.length + 2) (rwB st br n') (H.length + 4) (.box 58 [v']) = N n' v' ++ L := fun n v n' v' L => by
    rw [hNe, hNe]; simp [set2]
  obtain ⟨C, hC⟩ : ∃ C, C = listC st br m t l := ⟨_, rfl⟩
  obtain ⟨O, hO⟩ : ∃ O, O = listO st br m t l := ⟨_, rfl⟩
  obtain ⟨W, hW⟩ : ∃ W, W = whyE l := ⟨_, rfl⟩
  obtain ⟨T, hT⟩ : ∃ T, T = termsE t := ⟨_, rfl⟩
  have hOC : C ≠ 0 → O = [] := fun h => by
    rw [hC] at h; rw [hO]
    unfold listC at h
    unfold listO
    cases hc : listM st br m t 1 l 0 with
    | err e => rfl
    | ok o n => rw [hc] at h; exact absurd rfl h
  have ck := lkept2_ok 76 [.bp (H.length + 3) 0, .bp H.length 0, .bp (H.length + 1) 0, .bp (H.length + 4) 0] C (N 0 nilS) (fun H' => ∃ n v, H' = N n v ∧ (C = 0 → v = Lk.sl O)) (by kernel_rfl) (fun L => by
    refine (rew1_ok st br m t l hm ht hl (N 0 nilS ++ L) (H.length + 3) H.length (H.length + 1) (H.length + 4) (H.length + 2) (by rw [hNe, hb3]; simp) (by rw [hNe]; simp) (by rw [hNe]; simp) (by rw [hNe]; simp) (by rw [hNe]; simp)).mono ?_
    rw [← hC, ← hO]
    rintro e H' ⟨rfl, n, v, rfl, hv, hv2⟩
    refine ⟨N n v, [], ⟨n, v, rfl, hv⟩, by rw [hNe, hNe]; simp, fun h => ?_, rfl, by rw [hN2]; simp⟩
    have : N n v = set2 (N 0 nilS) (H.length + 2) (rwB st br n) (H.length + 4) (.box 58 [v]) := by have := hN2 0 nilS n v []; simpa using this.symm
    rw [this, set2_length]
    refine underH_set2 h rfl ?_
    by_cases hz : C = 0
    · rw [hv hz]; rfl
    · rw [hv2 hz]; rfl)
  obtain ⟨R, hR⟩ : ∃ R, R = rewE st br m t l := ⟨_, rfl⟩
  have hRe : R = (if W ≠ 0 then ([], W) else if T = false then ([], 2) else (O, C)) := by rw [hR, hW, hT, hO, hC]; rfl
  rw [← hR]
  have cw := fun H => why_ok l hl H
  have ct := fun H => mayTerms_ok t ht H
  rw [← hW] at cw
  rw [← hT] at ct
  have hNo : ∀ n v, (N n v)[H.length + 4]? = some (.box 58 [v]) := fun n v => by rw [hNe]; simp
  have fin : ∀ (v : AV) (x : Int) (o : List Lk) L, R = (o, x) → Weak v (Lk.sl o) → v.under H.length = true → WeakE (Tidy H (fun e H' => e = .ret (.tup [Lk.sl R.1, I R.2]) ∧ H' = H)) (.ret (.tup [v, I x])) (H ++ L) := fun v x o L h hw hvu => by
    rw [h]
    refine tidy_weak (r' := .tup [Lk.sl o, I x]) (Weak.tupL (.cons hw (.cons (.refl _) .nil))) ?_
    exact tidy_same rfl ⟨rfl, rfl⟩
  clear hR hW hT hO hC
  rw [hNe 0 nilS, hb3] at ck
  simp -dsimp
  refine acallsW_det (cw _) ?_
  simp -dsimp
  refine condVW_introNE (fun h1 _ _ => ?_) (fun h1 => ?_)
  · rw [if_pos h1] at hRe
    simp -dsimp
    exact fin _ _ _ _ hRe (.nil 4) rfl
  rw [if_neg (fun h => h h1)] at hRe
  simp -dsimp
  refine acallsW_det (ct _) ?_
  cases T
  · rw [if_pos rfl] at hRe
    simp -dsimp
    exact fin _ _ _ _ hRe (.nil 4) rfl
  rw [if_neg (by simp)] at hRe
  simp -dsimp
  refine acallsW_of ck ?_
  rintro _ _ ⟨rfl, n, v, rfl, hv⟩
  simp -dsimp
  refine condVW_introNE (fun h2 _ _ => ?_) (fun h2 => ?_)
  · rw [hOC h2] at hRe
    simp -dsimp
    rw [hNe]
    exact fin _ _ _ _ hRe (.nil 4) rfl
  · simp -dsimp [hNo]
    rw [hv h2]
    rw [h2] at hRe
    rw [hNe]
    exact fin _ _ _ _ hRe (.refl _) rfl
end Go.Proofs
namespace Go.Proofs
open Go.Mu
structure Sn where
  (jump taken : Bool)
  addr : Int
deriving DecidableEq
@[simp] def Sn.cells (s : Sn) : List AV := [Bo s.jump, Bo s.taken, U s.addr]
abbrev Sn.sl (l : List Sn) : AV := .vs 3 (l.map Sn.cells)
def itemSn (l : List Int) : List Sn := l.map fun a => ⟨false, false, a⟩
def jumpSn (x : Lk) : List Sn := if x.kind = 2 then [⟨true, !x.taken, 0⟩] else []
mutual
def Lk.flat : Lk → List Sn
  | .mk k i t s => itemSn i ++ jumpSn (.mk k i t s) ++ lkssFlat s
def lksFlat : List Lk → List Sn
  | [] => []
  | x :: l => x.flat ++ lksFlat l
def lkssFlat : List (List Lk) → List Sn
  | [] => []
  | a :: l => lksFlat a ++ lkssFlat l
end
theorem Lk.flat_eq (x : Lk) : x.flat = itemSn x.items ++ jumpSn x ++ lkssFlat x.subs := by cases x; rw [Lk.flat]; rfl
theorem flat_len (m : Nat) : (∀ (l : List Lk), lksCount l ≤ m → (lksFlat l).length ≤ lksCount l) ∧ (∀ (l : List (List Lk)), lkssCount l ≤ m → (lkssFlat l).length ≤ lkssCount l) := by
  induction m with
  | zero =>
    refine ⟨fun l hl => ?_, fun l hl => ?_⟩
    · have := lks_len l; obtain rfl : l = [] := List.eq_nil_of_length_eq_zero (by omega); simp [lksFlat]
    · have := lkss_len l; obtain rfl : l = [] := List.eq_nil_of_length_eq_zero (by omega); simp [lkssFlat]
  | succ m ih =>
    refine ⟨fun l => ?_, fun l => ?_⟩
    · induction l with
      | nil => intro _; simp [lksFlat]
      | cons x l ihl =>
        intro hl
        simp only [lksCount] at hl ⊢
        have hx := Lk.count_eq x
        have h1 := ihl (by omega)
        have h2 := ih.2 x.subs (by omega)
        have h3 : (jumpSn x).length ≤ 1 := by unfold jumpSn; split <;> simp
        rw [lksFlat, Lk.flat_eq]
        simp only [List.length_append, itemSn, List.length_map]
        omega
    · induction l with
      | nil => intro _; simp [lkssFlat]
      | cons a l ihl =>
        intro hl
        simp only [lkssCount] at hl ⊢
        have h1 := ihl (by omega)
        have h2 := ih.1 a (by omega)
        rw [lkssFlat]
        simp only [List.length_append]
        omega
theorem lksFlat_len (l : List Lk) : (lksFlat l).length ≤ lksCount l := (flat_len _).1 l (Nat.le_refl _)
abbrev snB (l : List Sn) : Blk := ownB 81 3 (l.map Sn.cells)
abbrev snS (k : Nat) (l : List Sn) : AV := ownS k (l.map Sn.cells)
theorem sns_frzB (l : List Sn) : (l.map Sn.cells).flatten.all AV.frzB = true := by
  rw [List.all_eq_true]
  intro c hc
  obtain ⟨e, he, hce⟩ := List.mem_flatten.1 hc
  obtain ⟨x, _, rfl⟩ := List.mem_map.1 he
  simp at hce
  rcases hce with rfl | rfl | rfl <;> rfl
/-- What is seen so far, and what comes of the rest. -/
def SnM (H : List Blk) (F : List Sn) (pre : List Blk) (rest : List Sn) (x : AV) (H' : List Blk) : Prop := ∃ s L, H' = H ++ snB s :: (pre ++ L) ∧ x = snS H.length s ∧ s ++ rest = F
theorem tidy_sn {H : List Blk} {R : AE → List Blk → Prop} (hu : underH H.length H = true) (l : List Sn) (L : List Blk) (h : R (.ret (Sn.sl l)) H) : WeakE (Tidy H R) (.ret (snS H.length l)) (H ++ snB l :: L) := by
  by_cases hw : l = []
  · subst hw
    refine tidy_weak (.nil 3) ?_
    exact tidy_same rfl h
  · have hne : l.map Sn.cells ≠ [] := by simpa using hw
    refine tidy_weak (.refl _) ?_
    unfold snB
    rw [ownB, if_neg hne]
    refine tidy_give1 hu 3 _ _ (sns_frzB l) ?_ ?_
    · rw [frz_own _ _ _ hne]; rfl
    · rw [frz_own _ _ _ hne]; exact h
theorem flat_ok (m : Nat) : ∀ (l : List Lk), lksCount l < m → lksCount l ≤ 2^40 → ∀ (H : List Blk), ACalls Try.prog 78 [Lk.sl l] H (fun e H' => e = .ret (Sn.sl (lksFlat l)) ∧ H' = H) := by
  induction m with
  | zero => intro l h; omega
  | succ m ih =>
    intro l hm hc H
    refine acalls_under fun hu _ => acalls_tidy (acalls_weakE (acalls_spare 1 (acalls_of_awp Try.func78 rfl (by kernel_rfl) ?_)))
    have hlen := lks_len l
    have hfl := lksFlat_len l
    obtain ⟨F, hF⟩ : ∃ F, F = lksFlat l := ⟨_, rfl⟩
    have hFl : F.length ≤ 2^40 := by rw [hF]; omega
    have hrg : ∀ X L, (H ++ X :: L)[H.length]? = some X := fun X L => by simp
    have hrs : ∀ X Y L, (H ++ X :: L).set H.length Y = H ++ Y :: L := fun X Y L => by simp
    rw [← hF]
    refine awp_cut (fun _ => false) (fun _ => none) (fun f H' => H' = H ++ [Blk.pend] ∧ f 0 = Lk.sl l) (by kernel_rfl) ?_ ?_
    · simp -dsimp
    rintro g _ ⟨rfl, g0⟩
    refine awp_cut (fun _ => false) (fun _ => none) (fun f H' => H' = H ++ [Blk.pend] ∧ f 0 = Lk.sl l ∧ f 3 = nilS) (by kernel_rfl) ?_ ?_
    · simp -dsimp [g0]
    clear g g0
    rintro g _ ⟨rfl, g0, g3⟩
    refine awp_cutA (fun f H' => SnM H F [] [] (f 3) H') ?_ ?_
    rotate_left
    · clear g g0 g3
      rintro g _ ⟨s, L, rfl, g3, hs⟩
      rw [List.append_nil] at hs
      subst hs
      refine awp_all (fun _ => false) (fun _ => none) (by kernel_rfl) ?_
      simp -dsimp [g3]
      exact tidy_sn hu s L ⟨rfl, rfl⟩
    refine awp_cut (fun _ => false) (fun _ => none) (fun f H' => H' = H ++ [Blk.pend] ∧ f 10 = Lk.sl l ∧ f 3 = nilS ∧ f 11 = I l.length ∧ f 12 = I 0) (by kernel_rfl) ?_ ?_
    · simp -dsimp [g0, g3]
    clear g g0 g3
    rintro g _ ⟨rfl, g10, g3, g11, g12⟩
    refine awp_block ?_
    refine awp_loopI (fun (i : Nat) f H' => SnM H F [] (lksFlat (l.drop i)) (f 3) H' ∧ f 10 = Lk.sl l ∧ f 11 = I l.length ∧ f 12 = I i ∧ i ≤ l.length) (fun i => l.length - i) 0
      ⟨⟨[], [], by simp [ownB], by rw [g3]; exact (ownS_nil _).symm, by simp [hF]⟩, g10, g11, g12, by omega⟩ ?_
    clear g g10 g3 g11 g12 hF
    rintro i g _ ⟨⟨s, L, rfl, g3, hs⟩, g10, g11, g12, hi⟩
    rw [List.nil_append]
    refine awp_cut (fun _ => false) (fun _ => none) (fun f H' => H' = H ++ snB s :: L ∧ f 10 = Lk.sl l ∧ f 11 = I l.length ∧ f 12 = I i ∧ f 3 = snS H.length s ∧ f 13 = Bo (decide ((i : Int) < l.length))) (by kernel_rfl) ?_ ?_
    · simp -dsimp [g10, g11, g12, g3]
    clear g g10 g11 g12 g3
    rintro g _ ⟨rfl, g10, g11, g12, g3, g13⟩
    refine awp_cut (fun _ => false) (fun _ => none) (fun f H' => H' = H ++ snB s :: L ∧ f 10 = Lk.sl l ∧ f 11 = I l.length ∧ f 12 = I i ∧ f 3 = snS H.length s ∧ i < l.length) (by kernel_rfl) ?_ ?_
    · simp -dsimp [g13]
      refine condVW_introD (fun hlt => ?_) (fun hlt => ?_)
      · simp -dsimp [g10, g11, g12, g3]
        omega
      · rw [drop_end (by omega), lksFlat] at hs
        simp -dsimp [g3]
        exact ⟨s, L, by simp, rfl, hs⟩
    clear g g10 g11 g12 g3 g13
    rintro g _ ⟨rfl, g10, g11, g12, g3, hlt⟩
    rw [drop_cons hlt, lksFlat, Lk.flat_eq] at hs
    have hgx := lks_get hlt
    have hlx : l[i]? = some l[i] := List.getElem?_eq_getElem hlt
    obtain ⟨x, hx⟩ : ∃ x, x = l[i] := ⟨_, rfl⟩
    rw [← hx] at hgx hlx hs
    clear hx
    have hcx := Lk.count_eq x
    have hls := lkss_len x.subs
    obtain ⟨K, hK⟩ : ∃ K, K = lksFlat (l.drop (i + 1)) := ⟨_, rfl⟩
    rw [← hK] at hs
    have hbound : ∀ a b : List Sn, a ++ b = F → a.length ≤ 2^40 := fun a b h => by have := congrArg List.length h; simp only [List.length_append] at this; omega
    refine awp_cutA (fun f H' => SnM H F [] K (f 3) H' ∧ f 10 = Lk.sl l ∧ f 11 = I l.length ∧ f 12 = I i) ?_ ?_
    rotate_left
    · clear g g10 g11 g12 g3
      rintro g H' ⟨ho, g10, g11, g12⟩
      rw [hK] at ho
      replace ho := Hid.mk ho
      refine awp_all (fun _ => false) (fun _ => none) (by kernel_rfl) ?_
      simp -dsimp [g10, g11, g12]
      exact ⟨i + 1, by omega, ho.out, wrapS (by omega), by omega⟩
    refine awp_block ?_
    obtain ⟨xB, hxB⟩ : ∃ xB, xB = Blk.box 67 [I x.kind, U.sl x.items, Bo x.taken, Lk.sls x.subs] := ⟨_, rfl⟩
    obtain ⟨hx, hhx⟩ : ∃ hx, hx = H.length + (L.length + 1) := ⟨_, rfl⟩
    have hgX : ∀ (A : Blk) R, (H ++ A :: (L ++ xB :: R))[hx]? = some (.box 67 [I x.kind, U.sl x.items, Bo x.taken, Lk.sls x.subs]) := fun A R => by
      rw [hhx, List.getElem?_append_right (by omega), Nat.add_sub_cancel_left, List.getElem?_cons_succ, List.getElem?_append_right (Nat.le_refl _), Nat.sub_self, ← hxB]; rfl
    refine awp_cut (fun _ => false) (fun _ => none) (fun f H' => H' = H ++ snB s :: (L ++ [xB]) ∧ f 10 = Lk.sl l ∧ f 11 = I l.length ∧ f 12 = I i ∧ f 3 = snS H.length s ∧ f 5 = .bp hx 0) (by kernel_rfl) ?_ ?_
    · rw [hxB, hhx]
      simp -dsimp [g10, g11, g12, g3, hlx]
    clear g g10 g11 g12 g3
    rintro g _ ⟨rfl, g10, g11, g12, g3, g5⟩
    -- its items
    obtain ⟨K1, hK1⟩ : ∃ K1, K1 = jumpSn x ++ (lkssFlat x.subs ++ K) := ⟨_, rfl⟩
    have hs1 : s ++ (itemSn x.items ++ K1) = F := by rw [← hs, hK1]; simp
    clear hs
    refine awp_cutA (fun f H' => SnM H F (L ++ [xB]) K1 (f 3) H' ∧ f 10 = Lk.sl l ∧ f 11 = I l.length ∧ f 12 = I i ∧ f 5 = .bp hx 0) ?_ ?_
    · refine awp_all (fun d => d == 27) (fun _ => none) (by kernel_rfl) ?_
      simp -dsimp [g10, g11, g12, g3, g5, hgX]
      refine loop_rule (hn := fun d => d == 27) (od := fun _ => none) (fun (j : Nat) f H' => SnM H F (L ++ [xB]) (itemSn (x.items.drop j) ++ K1) (f 3) H' ∧ f 10 = Lk.sl l ∧ f 11 = I l.length ∧ f 12 = I i ∧ f 5 = .bp hx 0 ∧ f 17 = U.sl x.items ∧ f 18 = I x.items.length ∧ f 19 = I j ∧ j ≤ x.items.length) (fun j => x.items.length - j) (by kernel_rfl) 0 (by
        simp [g10, g11, g12, g3, g5]
        exact ⟨s, [], by simp, rfl, hs1⟩) ?_
      clear g g10 g11 g12 g3 g5 hs1
      rintro j g _ ⟨⟨s, R, rfl, g3, hs⟩, g10, g11, g12, g5, g17, g18, g19, hj⟩
      simp -dsimp [g10, g11, g12, g3, g5, g17, g18, g19]
      refine condVW_introD (fun hjt => ?_) (fun hjt => ?_)
      · rw [drop_cons hjt] at hs
        have hlj : x.items[j]? = some x.items[j] := List.getElem?_eq_getElem hjt
        obtain ⟨w, hw⟩ : ∃ w, w = x.items[j] := ⟨_, rfl⟩
        rw [← hw] at hs hlj
        clear hw
        have hsl := hbound _ _ hs
        simp -dsimp [g10, g11, g12, g3, g5, g17, g18, g19, hlj]
        refine appendVW_own (k := H.length) (es := s.map Sn.cells) (by rw [hrg]) (by simp; omega) (by simp; omega) ?_
        rw [hrs]
        simp -dsimp [g10, g11, g12, g3, g5, g17, g18, g19]
        exact ⟨j + 1, by omega, ⟨s ++ [⟨false, false, w⟩], R, by simp [snB], by simp [snS], by rw [← hs]; simp [itemSn]⟩, wrapS (by omega), by omega⟩
      · have h1 : x.items.drop j = [] := List.drop_eq_nil_of_le (by omega)
        rw [h1] at hs
        simp -dsimp [g10, g11, g12, g3, g5]
        exact ⟨s, R, by simp, rfl, by simpa [itemSn] using hs⟩
    clear g g10 g11 g12 g3 g5 hs1
    rintro g _ ⟨⟨s, R, rfl, g3, hs⟩, g10, g11, g12, g5⟩
    rw [show (L ++ [xB]) ++ R = L ++ xB :: R by simp]
    rw [hK1] at hs
    clear hK1
    -- its jump
    refine awp_cut (fun d => d == 38) (fun _ => none) (fun f H' => SnM H F (L ++ [xB]) (lkssFlat x.subs ++ K) (f 3) H' ∧ f 10 = Lk.sl l ∧ f 11 = I l.length ∧ f 12 = I i ∧ f 5 = .bp hx 0) (by kernel_rfl) ?_ ?_
    · have hsl := hbound _ _ hs
      simp -dsimp [g10, g11, g12, g3, g5, hgX]
      refine condVW_introE (fun hk => ?_) (fun hk _ _ => ?_)
      · have hj : jumpSn x = [⟨true, !x.taken, 0⟩] := by unfold jumpSn; rw [if_pos hk]
        rw [hj] at hs
        simp -dsimp [g10, g11, g12, g3, g5, hgX]
        refine appendVW_own (k := H.length) (es := s.map Sn.cells) (by rw [hrg]) (by simp; omega) (by simp; omega) ?_
        rw [hrs]
        simp -dsimp [g10, g11, g12, g3, g5]
        exact ⟨s ++ [⟨true, !x.taken, 0⟩], R, by simp [snB], by simp [snS], by rw [← hs]; simp⟩
      · have hj : jumpSn x = [] := by unfold jumpSn; rw [if_neg hk]
        rw [hj] at hs
        simp -dsimp [g10, g11, g12, g3, g5]
        exact ⟨s, R, by simp, rfl, by simpa using hs⟩
    clear g g10 g11 g12 g3 g5 hs
    rintro g _ ⟨⟨s, R, rfl, g3, hs⟩, g10, g11, g12, g5⟩
    rw [show (L ++ [xB]) ++ R = L ++ xB :: R by simp]
    -- what lies within
    refine awp_all (fun d => d == 49) (fun _ => none) (by kernel_rfl) ?_
    simp -dsimp [g10, g11, g12, g3, g5, hgX]
    refine loop_rule (hn := fun d => d == 49) (od := fun _ => none) (fun (j : Nat) f H' => SnM H F [] (lkssFlat (x.subs.drop j) ++ K) (f 3) H' ∧ f 10 = Lk.sl l ∧ f 11 = I l.length ∧ f 12 = I i ∧ f 40 = Lk.sls x.subs ∧ f 41 = I x.subs.length ∧ f 42 = I j ∧ j ≤ x.subs.length) (fun j => x.subs.length - j) (by kernel_rfl) 0 (by
      simp [g10, g11, g12, g3, g5]
      exact ⟨s, _, rfl, rfl, hs⟩) ?_
    clear g g10 g11 g12 g3 g5 hs hgX
    clear R
    rintro j g _ ⟨⟨s, R, rfl, g3, hs⟩, g10, g11, g12, g40, g41, g42, hj⟩
    rw [List.nil_append]
    simp -dsimp [g10, g11, g12, g3, g40, g41, g42]
    refine condVW_introD (fun hjt => ?_) (fun hjt => ?_)
    · rw [drop_cons hjt, lkssFlat] at hs
      have hgs := lkss_get hjt
      have hlj : x.subs[j]? = some x.subs[j] := List.getElem?_eq_getElem hjt
      obtain ⟨a, ha⟩ : ∃ a, a = x.subs[j] := ⟨_, rfl⟩
      rw [← ha] at hs hlj hgs
      clear ha
      have hsl := hbound (s ++ lksFlat a) (lkssFlat (x.subs.drop (j + 1)) ++ K) (by rw [← hs]; simp)
      simp only [List.length_append] at hsl
      have cr := fun H => ih a (by omega) (by omega) H
      simp -dsimp [g10, g11, g12, g3, g40, g41, g42, hlj]
      refine acallsW_det (cr _) ?_
      simp -dsimp [g10, g11, g12, g3, g40, g41, g42, hlj]
      refine appendVW_own (k := H.length) (es := s.map Sn.cells) (by rw [hrg]) (by simp; omega) (by simp; omega) ?_
      rw [hrs]
      simp -dsimp [g10, g11, g12, g3, g40, g41, g42]
      exact ⟨j + 1, by omega, ⟨s ++ lksFlat a, R, by simp [snB], by simp [snS], by rw [← hs]; simp⟩, wrapS (by omega), by omega⟩
    · have h1 : x.subs.drop j = [] := List.drop_eq_nil_of_le (by omega)
      rw [h1, lkssFlat] at hs
      simp -dsimp [g10, g11, g12, g3]
      exact ⟨s, R, rfl, rfl, by simpa using hs⟩
end Go.Proofs
namespace Go.Proofs
open Go.Mu
mutual
/-- How deep leakage nests. -/
def Lk.deep : Lk → Nat
  | .mk _ _ _ s => max 1 (lkssDeep s)
def lksDeep : List Lk → Nat
  | [] => 0
  | x :: l => max x.deep (lksDeep l)
def lkssDeep : List (List Lk) → Nat
  | [] => 0
  | a :: l => max (1 + lksDeep a) (lkssDeep l)
end
mutual
/-- Nodes and items. -/
def Lk.parts : Lk → Nat
  | .mk _ i _ s => 1 + i.length + lkssParts s
def lksParts : List Lk → Nat
  | [] => 0
  | x :: l => x.parts + lksParts l
def lkssParts : List (List Lk) → Nat
  | [] => 0
  | a :: l => lksParts a + lkssParts l
end
theorem Lk.deep_eq (x : Lk) : x.deep = max 1 (lkssDeep x.subs) := by cases x; rw [Lk.deep]; rfl
theorem Lk.parts_eq (x : Lk) : x.parts = 1 + x.items.length + lkssParts x.subs := by cases x; rw [Lk.parts]; rfl
theorem add_small {k n : Int} (h : n + k ≤ 1000000) : addW k (0, n) = (0, n + k) := by
  unfold addW
  rw [if_neg (by simp), if_neg (by simp; omega)]
theorem addR_small {k n : Int} (h : n + k ≤ 1000000) : addR k n = .ok () (n + k) := by
  unfold addR
  rw [if_neg (by omega)]
theorem lksDeep_pos {a : List Lk} (h : 0 < a.length) : 1 ≤ lksDeep a := by
  cases a with
  | nil => simp at h
  | cons x l => rw [lksDeep, Lk.deep_eq]; omega
theorem walk_small (m : Nat) : (∀ (l : List Lk), lksCount l ≤ m → ∀ (deep : Nat) (n : Int), deep + lksDeep l ≤ 513 → 0 ≤ n → n + lksParts l ≤ 1000000 → lksGo deep l (0, n) = (0, n + lksParts l)) ∧
    (∀ (l : List (List Lk)), lkssCount l ≤ m → ∀ (deep : Nat) (n : Int), deep + lkssDeep l ≤ 514 → 0 ≤ n → n + lkssParts l ≤ 1000000 → lkssGo deep l (0, n) = (0, n + lkssParts l)) := by
  induction m with
  | zero =>
    refine ⟨fun l hl deep n h1 h2 h3 => ?_, fun l hl deep n h1 h2 h3 => ?_⟩
    · have := lks_len l; obtain rfl : l = [] := List.eq_nil_of_length_eq_zero (by omega); rw [lksGo, lksParts]; simp
    · have := lkss_len l; obtain rfl : l = [] := List.eq_nil_of_length_eq_zero (by omega); rw [lkssGo, lkssParts]; simp
  | succ m ih =>
    refine ⟨fun l => ?_, fun l => ?_⟩
    · induction l with
      | nil => intro _ deep n h1 h2 h3; rw [lksGo, lksParts]; simp
      | cons x l ihl =>
        intro hl deep n h1 h2 h3
        simp only [lksCount] at hl
        simp only [lksDeep, lksParts] at h1 h3 ⊢
        have hx := Lk.count_eq x
        have hp := Lk.parts_eq x
        have hd := Lk.deep_eq x
        rw [lksGo, Lk.walk_eq, add_small (by omega), add_small (by omega), ih.2 x.subs (by omega) _ _ (by omega) (by omega) (by omega), ihl (by omega) _ _ (by omega) (by omega) (by omega)]
        refine Prod.ext rfl ?_
        simp only
        omega
    · induction l with
      | nil => intro _ deep n h1 h2 h3; rw [lkssGo, lkssParts]; simp
      | cons a l ihl =>
        intro hl deep n h1 h2 h3
        simp only [lkssCount] at hl
        simp only [lkssDeep, lkssParts] at h1 h3 ⊢
        have hnz : ¬(0 < a.length ∧ 512 < deep) := fun ⟨p, q⟩ => by have := lksDeep_pos p; omega
        rw [lkssGo_cons, lksTop, if_neg (by simp), if_neg hnz, ih.1 a (by omega) _ _ (by omega) (by omega) (by omega), ihl (by omega) _ _ (by omega) (by omega) (by omega)]
        refine Prod.ext rfl ?_
        simp only
        omega
theorem top_small {l : List Lk} {deep : Nat} {n : Int} (h1 : deep + lksDeep l ≤ 513) (h2 : 0 ≤ n) (h3 : n + lksParts l ≤ 1000000) : lksTop deep l (0, n) = (0, n + lksParts l) := by
  have hnz : ¬(0 < l.length ∧ 512 < deep) := fun ⟨p, q⟩ => by have := lksDeep_pos p; omega
  rw [lksTop, if_neg (by simp), if_neg hnz]
  exact (walk_small _).1 l (Nat.le_refl _) _ _ h1 h2 h3
theorem why_small {l : List Lk} (h1 : lksDeep l ≤ 512) (h2 : lksParts l ≤ 1000000) : whyE l = if lksFits l then 0 else 2 := by
  unfold whyE
  rw [top_small (by omega) (by omega) (by omega), if_neg (by simp)]
theorem parts_le (m : Nat) : (∀ (l : List Lk), lksCount l ≤ m → lksParts l ≤ lksCount l) ∧ (∀ (l : List (List Lk)), lkssCount l ≤ m → lkssParts l ≤ lkssCount l) := by
  induction m with
  | zero =>
    refine ⟨fun l hl => ?_, fun l hl => ?_⟩
    · have := lks_len l; obtain rfl : l = [] := List.eq_nil_of_length_eq_zero (by omega); rw [lksParts]; omega
    · have := lkss_len l; obtain rfl : l = [] := List.eq_nil_of_length_eq_zero (by omega); rw [lkssParts]; omega
  | succ m ih =>
    refine ⟨fun l => ?_, fun l => ?_⟩
    · induction l with
      | nil => intro _; simp [lksParts]
      | cons x l ihl =>
        intro hl
        simp only [lksCount] at hl ⊢
        have hx := Lk.count_eq x
        have h1 := ihl (by omega)
        have h2 := ih.2 x.subs (by omega)
        rw [lksParts, Lk.parts_eq]
        omega
    · induction l with
      | nil => intro _; simp [lkssParts]
      | cons a l ihl =>
        intro hl
        simp only [lkssCount] at hl ⊢
        have h1 := ihl (by omega)
        have h2 := ih.1 a (by omega)
        rw [lkssParts]
        omega
theorem lksParts_le (l : List Lk) : lksParts l ≤ lksCount l := (parts_le _).1 l (Nat.le_refl _)
/-! ### Terms -/
mutual
def Tm.deep : Tm → Nat
  | .mk _ _ _ s => max 1 (tmssDeep s)
def tmsDeep : List Tm → Nat
  | [] => 0
  | x :: l => max x.deep (tmsDeep l)
def tmssDeep : List (List Tm) → Nat
  | [] => 0
  | a :: l => max (1 + tmsDeep a) (tmssDeep l)
end
mutual
def Tm.parts : Tm → Nat
  | .mk _ i _ s => 1 + pkCount i + tmssParts s
def tmsParts : List Tm → Nat
  | [] => 0
  | x :: l => x.parts + tmsParts l
def tmssParts : List (List Tm) → Nat
  | [] => 0
  | a :: l => tmsParts a + tmssParts l
end
theorem Tm.deep_eq (x : Tm) : x.deep = max 1 (tmssDeep x.subs) := by cases x; rw [Tm.deep]; rfl
theorem Tm.parts_eq (x : Tm) : x.parts = 1 + pkCount x.lines + tmssParts x.subs := by cases x; rw [Tm.parts]; rfl
theorem tmsDeep_pos {a : List Tm} (h : 0 < a.length) : 1 ≤ tmsDeep a := by
  cases a with
  | nil => simp at h
  | cons x l => rw [tmsDeep, Tm.deep_eq]; omega
mutual
def Tm.good : Tm → Bool
  | .mk k ls tk subs => ls.all (fun l => l.all pickG) && kindG k && decide (subs.length = subsN k subs.length) && behindG (.mk k ls tk subs) && tmssGood subs
def tmsGood : List Tm → Bool
  | [] => true
  | x :: l => x.good && tmsGood l
def tmssGood : List (List Tm) → Bool
  | [] => true
  | a :: l => tmsGood a && tmssGood l
end
theorem Tm.good_eq (x : Tm) : x.good = (x.lines.all (fun l => l.all pickG) && kindG x.kind && decide (x.subs.length = subsN x.kind x.subs.length) && behindG x && tmssGood x.subs) := by cases x; rw [Tm.good]; rfl
theorem picksT_small : ∀ (l : List Pk) (g : Bool) (n : Int), n + l.length ≤ 1000000 → picksT l g n = .ok (g && l.all pickG) (n + l.length)
  | [], g, n, h => by simp [picksT]
  | p :: l, g, n, h => by
    simp only [List.length_cons, Int.natCast_add, Int.natCast_one] at h ⊢
    rw [picksT, addR_small (by omega), Rw.bind_ok, picksT_small l _ _ (by omega), List.all_cons, Bool.and_assoc]
    congr 1
    omega
theorem linesT_small : ∀ (l : List (List Pk)) (g : Bool) (n : Int), n + pkCount l ≤ 1000000 → linesT l g n = .ok (g && l.all (fun a => a.all pickG)) (n + pkCount l)
  | [], g, n, h => by simp [linesT, pkCount]
  | p :: l, g, n, h => by
    simp only [pkCount, Int.natCast_add, Int.natCast_one] at h ⊢
    rw [linesT, addR_small (by omega), Rw.bind_ok, picksT_small p _ _ (by omega), Rw.bind_ok, linesT_small l _ _ (by omega), List.all_cons, Bool.and_assoc]
    congr 1
    omega
theorem terms_small (m : Nat) : (∀ (l : List Tm), tmsCount l ≤ m → ∀ (deep : Nat) (g : Bool) (n : Int), deep + tmsDeep l ≤ 513 → 0 ≤ n → n + tmsParts l ≤ 1000000 → tmsGo deep l g n = .ok (g && tmsGood l) (n + tmsParts l)) ∧
    (∀ (l : List (List Tm)), tmssCount l ≤ m → ∀ (deep : Nat) (g : Bool) (n : Int), deep + tmssDeep l ≤ 514 → 0 ≤ n → n + tmssParts l ≤ 1000000 → tmssGo deep l g n = .ok (g && tmssGood l) (n + tmssParts l)) := by
  induction m with
  | zero =>
    refine ⟨fun l hl deep g n h1 h2 h3 => ?_, fun l hl deep g n h1 h2 h3 => ?_⟩
    · have := tms_len l; obtain rfl : l = [] := List.eq_nil_of_length_eq_zero (by omega); rw [tmsGo, tmsParts, tmsGood]; simp
    · have := tmss_len l; obtain rfl : l = [] := List.eq_nil_of_length_eq_zero (by omega); rw [tmssGo, tmssParts, tmssGood]; simp
  | succ m ih =>
    refine ⟨fun l => ?_, fun l => ?_⟩
    · induction l with
      | nil => intro _ deep g n h1 h2 h3; rw [tmsGo, tmsParts, tmsGood]; simp
      | cons x l ihl =>
        intro hl deep g n h1 h2 h3
        simp only [tmsCount] at hl
        simp only [tmsDeep, tmsParts] at h1 h3 ⊢
        have hx := Tm.count_eq x
        have hp := Tm.parts_eq x
        have hd := Tm.deep_eq x
        rw [tmsGo, Tm.walk_eq, addR_small (by omega), Rw.bind_ok, linesT_small _ _ _ (by omega), Rw.bind_ok, ih.2 x.subs (by omega) _ _ _ (by omega) (by omega) (by omega), Rw.bind_ok, ihl (by omega) _ _ _ (by omega) (by omega) (by omega)]
        congr 1
        · rw [tmsGood, Tm.good_eq]; simp only [Bool.and_assoc]
        · omega
    · induction l with
      | nil => intro _ deep g n h1 h2 h3; rw [tmssGo, tmssParts, tmssGood]; simp
      | cons a l ihl =>
        intro hl deep g n h1 h2 h3
        simp only [tmssCount] at hl
        simp only [tmssDeep, tmssParts] at h1 h3 ⊢
        have hnz : ¬(0 < a.length ∧ 512 < deep) := fun ⟨p, q⟩ => by have := tmsDeep_pos p; omega
        rw [tmssGo_cons, tmsTop, if_neg hnz, ih.1 a (by omega) _ _ _ (by omega) (by omega) (by omega), Rw.bind_ok, ihl (by omega) _ _ _ (by omega) (by omega) (by omega)]
        congr 1
        · rw [tmssGood, Bool.and_assoc]
        · omega
theorem termsE_small {t : List Tm} (h1 : tmsDeep t ≤ 512) (h2 : tmsParts t ≤ 1000000) : termsE t = tmsGood t := by
  have hnz : ¬(0 < t.length ∧ 512 < 1) := fun ⟨p, q⟩ => by omega
  unfold termsE tmsTop
  rw [if_neg hnz, (terms_small _).1 t (Nat.le_refl _) _ _ _ (by omega) (by omega) (by omega), Bool.true_and]
/-! ### Terms, as the document has them -/
def pickR (items : Bool) (p : Pk) : Bool := pickG p && (items || !itemP p)
def picksR (items : Bool) (ls : List (List Pk)) : Bool := ls.all fun l => l.all (pickR items)
def behindR (t : Tm) : Bool := if t.kind = 7 then (t.subs[1]?.getD []).all (fun y => decide (y.kind = 2) && picksR false y.lines) else true
mutual
def Tm.goodR : Tm → Bool
  | .mk k ls tk subs => kindG k && decide (subs.length = subsN k subs.length) && picksR true ls && behindR (.mk k ls tk subs) && tmssGoodR subs
def tmsGoodR : List Tm → Bool
  | [] => true
  | x :: l => x.goodR && tmsGoodR l
def tmssGoodR : List (List Tm) → Bool
  | [] => true
  | a :: l => tmsGoodR a && tmssGoodR l
end
theorem Tm.goodR_eq (x : Tm) : x.goodR = (kindG x.kind && decide (x.subs.length = subsN x.kind x.subs.length) && picksR true x.lines && behindR x && tmssGoodR x.subs) := by cases x; rw [Tm.goodR]; rfl
theorem picksR_true (ls : List (List Pk)) : picksR true ls = ls.all (fun l => l.all pickG) := by
  unfold picksR pickR
  simp only [Bool.true_or, Bool.and_true]
theorem picksR_false (ls : List (List Pk)) : picksR false ls = (ls.all (fun l => l.all pickG) && !(ls.any itemL)) := by
  have : ∀ l : List Pk, l.all (pickR false) = (l.all pickG && !(l.any itemP)) := fun l => by
    induction l with
    | nil => rfl
    | cons p l ih =>
      rw [List.all_cons, ih, List.all_cons, List.any_cons]
      unfold pickR
      cases pickG p <;> cases itemP p <;> cases l.all pickG <;> cases l.any itemP <;> rfl
  induction ls with
  | nil => rfl
  | cons l ls ih =>
    unfold picksR at ih ⊢
    rw [List.all_cons, ih, this, List.all_cons, List.any_cons]
    unfold itemL
    generalize (ls.any fun l => l.any itemP) = A
    cases l.all pickG <;> cases l.any itemP <;> cases (ls.all fun l => l.all pickG) <;> cases A <;> rfl
theorem tmsGood_mem : ∀ {l : List Tm}, tmsGood l = true → ∀ y ∈ l, y.lines.all (fun l => l.all pickG) = true
  | x :: l, h, y, hy => by
    rw [tmsGood, Bool.and_eq_true] at h
    rcases List.mem_cons.1 hy with rfl | hy
    · have := h.1
      rw [Tm.good_eq] at this
      simp only [Bool.and_eq_true] at this
      exact this.1.1.1.1
    · exact tmsGood_mem h.2 y hy
theorem tmssGood_at : ∀ {l : List (List Tm)}, tmssGood l = true → ∀ (i : Nat) a, l[i]? = some a → tmsGood a = true
  | b :: l, h, 0, a, ha => by
    rw [tmssGood, Bool.and_eq_true] at h
    obtain rfl : b = a := by simpa using ha
    exact h.1
  | b :: l, h, i + 1, a, ha => by
    rw [tmssGood, Bool.and_eq_true] at h
    exact tmssGood_at h.2 i a (by simpa using ha)
theorem behind_same {x : Tm} (hs : tmssGood x.subs = true) (hn : decide (x.subs.length = subsN x.kind x.subs.length) = true) : behindG x = behindR x := by
  unfold behindG behindR
  by_cases hk : x.kind = 7
  · have h2 : x.subs.length = 2 := by
      have := of_decide_eq_true hn
      unfold subsN at this
      rw [if_neg (by omega), if_pos (.inr hk)] at this
      exact this
    rw [if_pos ⟨hk, h2⟩, if_pos hk]
    obtain ⟨a, ha⟩ : ∃ a, x.subs[1]? = some a := ⟨x.subs[1], List.getElem?_eq_getElem (by omega)⟩
    rw [ha, Option.getD_some]
    have hg := tmsGood_mem (tmssGood_at hs 1 a ha)
    have : ∀ l : List Tm, (∀ y ∈ l, y.lines.all (fun l => l.all pickG) = true) → l.all behindP = l.all (fun y => decide (y.kind = 2) && picksR false y.lines) := fun l => by
      induction l with
      | nil => intro _; rfl
      | cons y l ih =>
        intro h
        rw [List.all_cons, List.all_cons, ih fun z hz => h z (List.mem_cons_of_mem _ hz)]
        congr 1
        unfold behindP
        rw [picksR_false, h y (List.mem_cons_self ..), Bool.true_and]
    exact this a hg
  · rw [if_neg (fun h => hk h.1), if_neg hk]
theorem good_same (m : Nat) : (∀ (l : List Tm), tmsCount l ≤ m → tmsGood l = tmsGoodR l) ∧ (∀ (l : List (List Tm)), tmssCount l ≤ m → tmssGood l = tmssGoodR l) := by
  induction m with
  | zero =>
    refine ⟨fun l hl => ?_, fun l hl => ?_⟩
    · have := tms_len l; obtain rfl : l = [] := List.eq_nil_of_length_eq_zero (by omega); rw [tmsGood, tmsGoodR]
    · have := tmss_len l; obtain rfl : l = [] := List.eq_nil_of_length_eq_zero (by omega); rw [tmssGood, tmssGoodR]
  | succ m ih =>
    refine ⟨fun l => ?_, fun l => ?_⟩
    · induction l with
      | nil => intro _; rw [tmsGood, tmsGoodR]
      | cons x l ihl =>
        intro hl
        simp only [tmsCount] at hl
        have hx := Tm.count_eq x
        rw [tmsGood, tmsGoodR, ihl (by omega), Tm.good_eq, Tm.goodR_eq, picksR_true, ← ih.2 x.subs (by omega)]
        congr 1
        by_cases hn : decide (x.subs.length = subsN x.kind x.subs.length) = true
        · by_cases hs : tmssGood x.subs = true
          · rw [behind_same hs hn, hs, hn]
            cases kindG x.kind <;> cases (x.lines.all fun l => l.all pickG) <;> cases behindR x <;> rfl
          · rw [Bool.not_eq_true] at hs
            rw [hs, Bool.and_false, Bool.and_false]
        · rw [Bool.not_eq_true] at hn
          rw [hn]
          simp
    · induction l with
      | nil => intro _; rw [tmssGood, tmssGoodR]
      | cons a l ihl =>
        intro hl
        simp only [tmssCount] at hl
        rw [tmssGood, tmssGoodR, ihl (by omega), ih.1 a (by omega)]
theorem tmsGood_same (l : List Tm) : tmsGood l = tmsGoodR l := (good_same _).1 l (Nat.le_refl _)
end Go.Proofs
namespace Go.Proofs
open Go.Mu
def flatE (l : List Lk) : List Sn × Int := if whyE l ≠ 0 then ([], whyE l) else (lksFlat l, 0)
theorem Flat_ok (l : List Lk) (hl : lksCount l ≤ 2^40) (H : List Blk) : ACalls Try.prog 28 [Lk.sl l] H (fun e H' => e = .ret (.tup [Sn.sl (flatE l).1, I (flatE l).2]) ∧ H' = H) := by
  refine acalls_tidy (acalls_weakE (acalls_of_vc (hn := fun _ => false) (od := fun _ => none) Try.func28 rfl (by kernel_rfl) ?_))
  have cw := fun H => why_ok l hl H
  have cf := fun H => flat_ok _ l (Nat.lt_succ_self _) hl H
  obtain ⟨W, hW⟩ : ∃ W, W = whyE l := ⟨_, rfl⟩
  obtain ⟨R, hR⟩ : ∃ R, R = flatE l := ⟨_, rfl⟩
  have hE : R = if W ≠ 0 then ([], W) else (lksFlat l, 0) := by rw [hR, hW]; rfl
  rw [← hW] at cw
  rw [← hR]
  clear hR hW
  simp -dsimp
  refine acallsW_det (cw _) ?_
  simp -dsimp
  refine condVW_introNE (fun h1 _ _ => ?_) (fun h1 => ?_)
  · rw [if_pos h1] at hE
    subst hE
    simp -dsimp
    refine tidy_weak (r' := .tup [Sn.sl [], I W]) (Weak.tupL (.cons (.nil 3) (.cons (.refl _) .nil))) ?_
    exact tidy_now rfl ⟨rfl, rfl⟩
  · rw [if_neg (fun h => h h1)] at hE
    subst hE
    simp -dsimp
    refine acallsW_det (cf _) ?_
    simp -dsimp
    refine tidy_weak (.refl _) ?_
    exact tidy_now rfl ⟨rfl, rfl⟩
/-! ### May it be? -/
theorem mayC_ok (l : List Lk) (hl : lksCount l ≤ 2^40) (H : List Blk) (t u v : Nat) (ht : H[t]? = some (.box 116 [.bp u 0])) (hv : H[v]? = some (.box 58 [Lk.sl l])) (hu : H[u]? = some (cntL 0)) : ACalls Try.prog 79 [.bp t 0, .bp v 0] H (CntR (lksTop 1 l (0, 0)) u H) := by
  refine acalls_tidy (acalls_of_vc (hn := fun _ => false) (od := fun _ => none) Try.func79 rfl (by kernel_rfl) ?_)
  have c := walk_ok _ l 1 0 (Nat.lt_succ_self _) hl (by omega) (by omega) (by omega) H u hu
  rw [show ((1 : Nat) : Int) = 1 from rfl] at c
  have hul := lt_of_get hu
  simp -dsimp [ht, hv]
  refine cntW c (fun hz => ?_) (fun hz => ?_)
  · simp -dsimp
    have := tidy_to (H := H) (H2 := H.set u (cntL (lksTop 1 l (0, 0)).2)) (L := []) (R := CntR (lksTop 1 l (0, 0)) u H) (r := .tup []) (by simp) (fun h => by rw [List.length_set]; exact underH_set h rfl) rfl ⟨by rw [if_pos hz], rfl⟩
    simpa using this
  · simp -dsimp
    have := tidy_toP (H := H) (H2 := H.set u (cntL (lksTop 1 l (0, 0)).2)) (L := []) (R := CntR (lksTop 1 l (0, 0)) u H) (r := refL (lksTop 1 l (0, 0)).1) (by simp) (fun h => by rw [List.length_set]; exact underH_set h rfl) rfl ⟨by rw [if_neg hz], rfl⟩
    simpa using this
def mayB (l : List Lk) : Bool := decide ((lksTop 1 l (0, 0)).1 = 0) && lksFits l
theorem may_why (l : List Lk) : mayB l = decide (whyE l = 0) := by
  unfold mayB whyE
  by_cases h : (lksTop 1 l (0, 0)).1 = 0
  · rw [if_neg (fun g => g h), decide_eq_true h]
    cases lksFits l <;> rfl
  · rw [if_pos h, decide_eq_false h]
    rfl
theorem lmay_ok (l : List Lk) (hl : lksCount l ≤ 2^40) (H : List Blk) : ACalls Try.prog 29 [Lk.sl l] H (fun e H' => e = .ret (Bo (mayB l)) ∧ H' = H) := by
  refine acalls_tidy (acalls_of_vc (hn := fun _ => false) (od := fun _ => none) Try.func29 rfl (by kernel_rfl) ?_)
  have cf := fun H => fits_ok _ l (Nat.lt_succ_self _) hl H
  obtain ⟨s, hs⟩ : ∃ s, s = lksTop 1 l (0, 0) := ⟨_, rfl⟩
  have hwy : mayB l = (decide (s.1 = 0) && lksFits l) := by rw [hs]; rfl
  obtain ⟨E, hE⟩ : ∃ E, E = mayB l := ⟨_, rfl⟩
  rw [← hE]
  rw [hwy] at hE
  have hst : ∀ X, (H ++ [.box 58 [Lk.sl l], cntL 0, .box 116 [.bp (H.length + 1) 0]]).set (H.length + 1) X = H ++ [.box 58 [Lk.sl l], X, .box 116 [.bp (H.length + 1) 0]] := fun X => by simp
  have ck := lkept_ok 79 [.bp (H.length + 2) 0, .bp H.length 0] s.1 (H ++ [.box 58 [Lk.sl l], cntL 0, .box 116 [.bp (H.length + 1) 0]]) (H ++ [.box 58 [Lk.sl l], cntL s.2, .box 116 [.bp (H.length + 1) 0]]) (by kernel_rfl) (by simp) (fun h => by rw [← hst, List.length_set]; exact underH_set h rfl) (fun L => by
      have := mayC_ok l hl ((H ++ [.box 58 [Lk.sl l], cntL 0, .box 116 [.bp (H.length + 1) 0]]) ++ L) (H.length + 2) (H.length + 1) H.length (by simp) (by simp) (by simp)
      rw [← hs] at this
      refine this.mono ?_
      rintro e H' ⟨rfl, rfl⟩
      refine ⟨rfl, [], ?_⟩
      simp)
  simp -dsimp
  refine acallsW_of ck ?_
  rintro _ _ ⟨rfl, rfl⟩
  have fin : ∀ (b : Bool) L, b = E → Tidy H (fun e H' => e = .ret (Bo E) ∧ H' = H) (.ret (Bo b)) (H ++ L) := fun b L h => by rw [h]; exact tidy_same rfl ⟨rfl, rfl⟩
  simp -dsimp
  refine guardVW_introTE (fun h1 => ?_) (fun h1 h1b _ => ?_)
  · rw [decide_eq_true h1, Bool.true_and] at hE
    simp -dsimp [h1]
    refine acallsW_det (cf _) ?_
    simp -dsimp [h1]
    exact fin _ _ hE.symm
  · rw [decide_eq_false h1, Bool.false_and] at hE
    simp -dsimp [h1b]
    exact fin _ _ hE.symm
/-! ### A line -/
theorem line_fn (items : List Int) (H : List Blk) : ACalls Try.prog 34 [U.sl items] H (fun e H' => e = .ret (.agg (Lk.mk 1 items false []).cells) ∧ H' = H) := by
  refine acalls_tidy (acalls_weakE (acalls_of_vc (hn := fun _ => false) (od := fun _ => none) Try.func34 rfl (by kernel_rfl) ?_))
  simp -dsimp [Lk.cells_eq]
  refine tidy_weak (r' := .agg [I 1, U.sl items, Bo false, Lk.sls []]) (Weak.aggL (.cons (.refl _) (.cons (.refl _) (.cons (.refl _) (.cons (.nil 1) .nil))))) ?_
  exact tidy_same rfl ⟨rfl, rfl⟩
/-! ### Two lists -/
theorem rseen_ok (a b : List Sn) (ha : a.length ≤ 2^40) (hb : b.length ≤ 2^40) (H : List Blk) : ACalls Try.prog 37 [Sn.sl a, Sn.sl b] H (fun e H' => e = .ret (Bo (decide (a = b))) ∧ H' = H) := by
  refine acalls_tidy (acalls_of_vc (hn := fun _ => false) (od := fun _ => none) Try.func37 rfl (by kernel_rfl) ?_)
  obtain ⟨E, hE⟩ : ∃ E, E = decide (a = b) := ⟨_, rfl⟩
  rw [← hE]
  have fin : ∀ (b : Bool) L, b = E → Tidy H (fun e H' => e = .ret (Bo E) ∧ H' = H) (.ret (Bo b)) (H ++ L) := fun b L h => by rw [h]; exact tidy_same rfl ⟨rfl, rfl⟩
  have fin0 : ∀ (b : Bool), b = E → Tidy H (fun e H' => e = .ret (Bo E) ∧ H' = H) (.ret (Bo b)) H := fun b h => by have := fin b [] h; simpa using this
  simp -dsimp
  refine condVW_introNE (fun h1 h1a h1b => ?_) (fun h1 => ?_)
  · simp -dsimp
    exact fin0 _ (by rw [hE, eq_comm]; exact decide_eq_false (fun h => h1 (by rw [h])))
  have hl : a.length = b.length := by omega
  simp -dsimp
  refine loop_rule (hn := fun _ => false) (od := fun _ => none) (fun (i : Nat) f H' => H' = H ∧ f 0 = Sn.sl a ∧ f 1 = Sn.sl b ∧ f 5 = I i ∧ i ≤ a.length ∧ E = decide (a.drop i = b.drop i)) (fun i => a.length - i) (by kernel_rfl) 0 (by simp; exact hE) ?_
  rintro i f H' ⟨rfl, h0, h1', h5, hi, hinv⟩
  simp -dsimp [h0, h1', h5]
  refine condVW_introD (fun hlt => ?_) (fun hlt => ?_)
  · have hltb : i < b.length := by omega
    rw [drop_cons hlt, drop_cons hltb] at hinv
    have e1 := List.getElem?_eq_getElem hlt
    have e2 := List.getElem?_eq_getElem hltb
    obtain ⟨x, hx⟩ : ∃ x, x = a[i] := ⟨_, rfl⟩
    obtain ⟨y, hy⟩ : ∃ y, y = b[i] := ⟨_, rfl⟩
    rw [← hx] at hinv e1
    rw [← hy] at hinv e2
    clear hx hy
    obtain ⟨xj, xt, xa⟩ := x
    obtain ⟨yj, yt, ya⟩ := y
    by_cases hxy : xj = yj ∧ xt = yt ∧ xa = ya
    · obtain ⟨rfl, rfl, rfl⟩ := hxy
      simp -dsimp [h0, h1', h5, e1, e2]
      exact ⟨i + 1, by omega, wrapS (by omega), by omega, by rw [hinv]; simp⟩
    · have hbb : (!xj == yj || (!xt == yt || !xa == ya)) = true := by
        by_cases p : xj = yj
        · by_cases q : xt = yt
          · by_cases r : xa = ya
            · exact absurd ⟨p, q, r⟩ hxy
            · simp [r]
          · simp [q]
        · simp [p]
      simp -dsimp [h0, h1', h5, e1, e2, hbb]
      exact fin0 _ (by rw [hinv]; simp; intro a b c; exact absurd ⟨a, b, c⟩ hxy)
  · have h1 : a.drop i = [] := List.drop_eq_nil_of_le (by omega)
    have h2 : b.drop i = [] := List.drop_eq_nil_of_le (by omega)
    rw [h1, h2] at hinv
    simp -dsimp
    exact fin0 _ hinv.symm
end Go.Proofs
namespace Go.Proofs
open Go.Mu
mutual
def Lk.eqB : Lk → Lk → Bool
  | .mk k i t s, .mk k' i' t' s' => decide (k = k') && decide (t = t') && decide (i = i') && lkssEq s s'
def lksEq : List Lk → List Lk → Bool
  | [], [] => true
  | x :: a, y :: b => x.eqB y && lksEq a b
  | _, _ => false
def lkssEq : List (List Lk) → List (List Lk) → Bool
  | [], [] => true
  | x :: a, y :: b => lksEq x y && lkssEq a b
  | _, _ => false
end
theorem Lk.eqB_eq (x y : Lk) : x.eqB y = (decide (x.kind = y.kind) && decide (x.taken = y.taken) && decide (x.items = y.items) && lkssEq x.subs y.subs) := by cases x; cases y; rw [Lk.eqB]; rfl
theorem lksEq_iff (m : Nat) : (∀ a, lksCount a ≤ m → ∀ b, lksEq a b = true ↔ a = b) ∧ (∀ a, lkssCount a ≤ m → ∀ b, lkssEq a b = true ↔ a = b) := by
  induction m with
  | zero =>
    refine ⟨fun l hl b => ?_, fun l hl b => ?_⟩
    · have := lks_len l; obtain rfl : l = [] := List.eq_nil_of_length_eq_zero (by omega); cases b <;> simp [lksEq]
    · have := lkss_len l; obtain rfl : l = [] := List.eq_nil_of_length_eq_zero (by omega); cases b <;> simp [lkssEq]
  | succ m ih =>
    refine ⟨fun l => ?_, fun l => ?_⟩
    · induction l with
      | nil => intro _ b; cases b <;> simp [lksEq]
      | cons x l ihl =>
        intro hl b
        simp only [lksCount] at hl
        cases b with
        | nil => simp [lksEq]
        | cons y b =>
          have hx := Lk.count_eq x
          rw [lksEq, Bool.and_eq_true, ihl (by omega), Lk.eqB_eq, Bool.and_eq_true, ih.2 x.subs (by omega)]
          cases x
          cases y
          simp only [Bool.and_eq_true, decide_eq_true_eq, Lk.kind, Lk.taken, Lk.items, Lk.subs, List.cons.injEq, Lk.mk.injEq]
          constructor
          · rintro ⟨⟨⟨⟨a, b⟩, c⟩, d⟩, e⟩; exact ⟨⟨of_decide_eq_true a, of_decide_eq_true c, of_decide_eq_true b, d⟩, e⟩
          · rintro ⟨⟨a, c, b, d⟩, e⟩; exact ⟨⟨⟨⟨decide_eq_true a, decide_eq_true b⟩, decide_eq_true c⟩, d⟩, e⟩
    · induction l with
      | nil => intro _ b; cases b <;> simp [lkssEq]
      | cons x l ihl =>
        intro hl b
        simp only [lkssCount] at hl
        cases b with
        | nil => simp [lkssEq]
        | cons y b => rw [lkssEq, Bool.and_eq_true, ihl (by omega), ih.1 x (by omega), List.cons.injEq]
theorem lksEq_same (a b : List Lk) : lksEq a b = true ↔ a = b := (lksEq_iff _).1 a (Nat.le_refl _) b
theorem lksEq_refl (a : List Lk) : lksEq a a = true := (lksEq_same a a).2 rfl
theorem lksEq_len {a b : List Lk} (h : lksEq a b = true) : a.length = b.length := by rw [(lksEq_same a b).1 h]
def sameT : FT := .fork [0, 1, 2, 3, 4, 5, 6, 7]
  (.alt 8 [2, 3, 6, 7] (.lin [(9, [2, 3, 6, 7]), (10, [6, 7]), (11, [])])
  (.alt 9 [2, 3, 6, 7] (.lin [(8, [2, 3, 6, 7]), (10, [6, 7]), (11, [])]) .none))
def SameX (H : List Blk) (x y : Lk) (f6 f7 : AV) (H' : List Blk) : Prop := ∃ u v R, H' = H ++ R ∧ H'[u]? = some (.box 67 [I x.kind, U.sl x.items, Bo x.taken, Lk.sls x.subs]) ∧ H'[v]? = some (.box 67 [I y.kind, U.sl y.items, Bo y.taken, Lk.sls y.subs]) ∧ f6 = .bp u 0 ∧ f7 = .bp v 0
theorem rsame_ok (m : Nat) : ∀ (a b : List Lk), lksCount a < m → lksCount a ≤ 2^40 → lksCount b ≤ 2^40 → ∀ (H : List Blk), ACalls Try.prog 27 [Lk.sl a, Lk.sl b] H (fun e H' => e = .ret (Bo (lksEq a b)) ∧ H' = H) := by
  induction m with
  | zero => intro a b h; omega
  | succ m ih =>
    intro a b hm hca hcb H
    refine acalls_tidy (acalls_of_awp Try.func27 rfl (by kernel_rfl) ?_)
    have hla := lks_len a
    have hlb := lks_len b
    obtain ⟨E, hE⟩ : ∃ E, E = lksEq a b := ⟨_, rfl⟩
    rw [← hE]
    have fin : ∀ b L, b = E → Tidy H (fun e H' => e = .ret (Bo E) ∧ H' = H) (.ret (Bo b)) (H ++ L) := fun b L h => by rw [h]; exact tidy_same rfl ⟨rfl, rfl⟩
    have fin0 : ∀ b, b = E → Tidy H (fun e H' => e = .ret (Bo E) ∧ H' = H) (.ret (Bo b)) H := fun b h => by have := fin b [] h; simpa using this
    refine awp_cut (fun _ => false) (fun _ => none) (fun f H' => H = H' ∧ f 0 = Lk.sl a ∧ f 1 = Lk.sl b) (by kernel_rfl) ?_ ?_
    · simp -dsimp
    rintro g _ ⟨rfl, g0, g1⟩
    refine awp_cut (fun _ => false) (fun _ => none) (fun f H' => H = H' ∧ f 0 = Lk.sl a ∧ f 1 = Lk.sl b ∧ a.length = b.length) (by kernel_rfl) ?_ ?_
    · simp -dsimp [g0, g1]
      refine condVW_introNE (fun h1 h1a h1b => ?_) (fun h1 => ?_)
      · simp -dsimp
        exact fin0 _ (by rw [hE]; cases hh : lksEq a b; rfl; exact absurd (by rw [lksEq_len hh]) h1)
      · simp -dsimp [g0, g1]
        omega
    clear g g0 g1
    rintro g _ ⟨rfl, g0, g1, hlen⟩
    refine awp_cutA (fun f H' => (∃ L, H' = H ++ L) ∧ E = true) ?_ ?_
    rotate_left
    · clear g g0 g1
      rintro g _ ⟨⟨L, rfl⟩, h⟩
      refine awp_all (fun _ => false) (fun _ => none) (by kernel_rfl) ?_
      simp -dsimp
      exact fin _ _ h.symm
    refine awp_cut (fun _ => false) (fun _ => none) (fun f H' => H = H' ∧ f 0 = Lk.sl a ∧ f 1 = Lk.sl b ∧ f 5 = I 0) (by kernel_rfl) ?_ ?_
    · simp -dsimp [g0, g1]
    clear g g0 g1
    rintro g _ ⟨rfl, g0, g1, g5⟩
    refine awp_block ?_
    refine awp_loopI (fun (i : Nat) f H' => (∃ L, H' = H ++ L) ∧ f 0 = Lk.sl a ∧ f 1 = Lk.sl b ∧ f 5 = I i ∧ i ≤ a.length ∧ lksEq (a.drop i) (b.drop i) = E) (fun i => a.length - i) 0 ⟨⟨[], by simp⟩, g0, g1, g5, by omega, by rw [hE]; simp⟩ ?_
    clear g g0 g1 g5 hE
    rintro i g _ ⟨⟨L, rfl⟩, g0, g1, g5, hi, hinv⟩
    refine awp_cut (fun _ => false) (fun _ => none) (fun f H' => H' = H ++ L ∧ f 0 = Lk.sl a ∧ f 1 = Lk.sl b ∧ f 5 = I i ∧ i < a.length) (by kernel_rfl) ?_ ?_
    · simp -dsimp [g0, g1, g5]
      refine condVW_introD (fun hlt => ?_) (fun hlt => ?_)
      · simp -dsimp [g0, g1, g5]
        omega
      · have h1 : a.drop i = [] := List.drop_eq_nil_of_le (by omega)
        have h2 : b.drop i = [] := List.drop_eq_nil_of_le (by omega)
        rw [h1, h2, lksEq] at hinv
        simp -dsimp
        exact hinv.symm
    clear g g0 g1 g5
    rintro g _ ⟨rfl, g0, g1, g5, hlt⟩
    have hltb : i < b.length := by omega
    rw [drop_cons hlt, drop_cons hltb, lksEq, Lk.eqB_eq] at hinv
    have hgx := lks_get hlt
    have hgy := lks_get hltb
    have e1 := List.getElem?_eq_getElem hlt
    have e2 := List.getElem?_eq_getElem hltb
    obtain ⟨x, hx⟩ : ∃ x, x = a[i] := ⟨_, rfl⟩
    obtain ⟨y, hy⟩ : ∃ y, y = b[i] := ⟨_, rfl⟩
    rw [← hx] at hinv e1 hgx
    rw [← hy] at hinv e2 hgy
    clear hx hy
    have hcx := Lk.count_eq x
    have hcy := Lk.count_eq y
    have hxs := lkss_len x.subs
    have hys := lkss_len y.subs
    refine awp_cutA (fun f H' => (∃ L, H' = H ++ L) ∧ f 0 = Lk.sl a ∧ f 1 = Lk.sl b ∧ f 5 = I i ∧ lksEq (a.drop (i + 1)) (b.drop (i + 1)) = E) ?_ ?_
    rotate_left
    · clear g g0 g1 g5
      rintro g _ ⟨⟨L, rfl⟩, g0, g1, g5, hinv⟩
      refine awp_all (fun _ => false) (fun _ => none) (by kernel_rfl) ?_
      simp -dsimp [g0, g1, g5]
      exact ⟨i + 1, by omega, wrapS (by omega), by omega, hinv⟩
    refine awp_block ?_
    obtain ⟨K, hK⟩ : ∃ K, K = lksEq (a.drop (i + 1)) (b.drop (i + 1)) := ⟨_, rfl⟩
    rw [← hK] at hinv ⊢
    refine awp_cutA (fun f H' => SameX H x y (f 6) (f 7) H' ∧ f 0 = Lk.sl a ∧ f 1 = Lk.sl b ∧ f 5 = I i) ?_ ?_
    · refine awp_region_tree (fun d => false) sameT (by kernel_rfl) ?_
      have fin2 : ∀ u v R X Y, (H ++ (L ++ R))[u]? = some (Blk.box 67 X) → (H ++ (L ++ R))[v]? = some (Blk.box 67 Y) → X = [I x.kind, U.sl x.items, Bo x.taken, Lk.sls x.subs] → Y = [I y.kind, U.sl y.items, Bo y.taken, Lk.sls y.subs] → SameX H x y (.bp u 0) (.bp v 0) (H ++ (L ++ R)) := fun u v R X Y p q hX hY => by
        subst hX hY
        exact ⟨u, v, _, rfl, p, q, rfl, rfl⟩
      simp -dsimp [sameT, g0, g1, g5, e1, e2]
      refine ⟨fin2 _ _ _ _ _ ?_ ?_ rfl rfl, fin2 _ _ _ _ _ ?_ ?_ rfl rfl⟩
      · rw [List.getElem?_append_right (by omega), Nat.add_sub_cancel_left, List.getElem?_append_right (by omega), Nat.sub_self]; rfl
      · rw [List.getElem?_append_right (by omega), Nat.add_sub_cancel_left, List.getElem?_append_right (by omega), Nat.add_sub_cancel_left]; rfl
      · rw [List.getElem?_append_right (by omega), Nat.add_sub_cancel_left, List.getElem?_append_right (by omega), Nat.add_sub_cancel_left]; rfl
      · rw [List.getElem?_append_right (by omega), Nat.add_sub_cancel_left, List.getElem?_append_right (by omega), Nat.sub_self]; rfl
    clear g g0 g1 g5
    rintro g V ⟨⟨u, v, R, hV, hVx, hVy, g6, g7⟩, g0, g1, g5⟩
    have finV : ∀ b, b = E → Tidy H (fun e H' => e = .ret (Bo E) ∧ H' = H) (.ret (Bo b)) V := fun b h => by rw [hV]; exact fin _ _ h
    have hVH : ∃ L', V = H ++ L' := ⟨_, hV⟩
    clear hV
    refine awp_cut (fun _ => false) (fun _ => none) (fun f H' => V = H' ∧ f 0 = Lk.sl a ∧ f 1 = Lk.sl b ∧ f 5 = I i ∧ f 6 = .bp u 0 ∧ f 7 = .bp v 0 ∧ x.kind = y.kind ∧ x.taken = y.taken ∧ x.items.length = y.items.length ∧ x.subs.length = y.subs.length) (by kernel_rfl) ?_ ?_
    · replace hinv := Hid.mk hinv
      by_cases hk : x.kind = y.kind
      rotate_left
      · have hkb : (x.kind != y.kind) = true := by simpa using hk
        simp -dsimp [g0, g1, g5, g6, g7, hVx, hVy, hkb]
        exact finV false (by rw [← hinv.out, decide_eq_false hk]; rfl)
      by_cases ht : x.taken = y.taken
      rotate_left
      · have hkb : (x.taken != y.taken) = true := by simpa using ht
        simp -dsimp [g0, g1, g5, g6, g7, hVx, hVy, hk, hkb]
        exact finV false (by rw [← hinv.out, decide_eq_false ht, Bool.and_false]; rfl)
      by_cases hli : x.items.length = y.items.length
      rotate_left
      · have hkb : ((x.items.length : Int) != (y.items.length : Int)) = true := by simp; omega
        simp -dsimp [g0, g1, g5, g6, g7, hVx, hVy, hk, ht, hkb]
        have hne : ¬ x.items = y.items := fun h => hli (by rw [h])
        exact finV false (by rw [← hinv.out, decide_eq_false hne, Bool.and_false]; rfl)
      by_cases hls : x.subs.length = y.subs.length
      rotate_left
      · have hkb : ((x.subs.length : Int) != (y.subs.length : Int)) = true := by simp; omega
        simp -dsimp [g0, g1, g5, g6, g7, hVx, hVy, hk, ht, hli, hkb]
        have hne : lkssEq x.subs y.subs = false := by
          cases hh : lkssEq x.subs y.subs
          · rfl
          · exact absurd (by rw [((lksEq_iff _).2 _ (Nat.le_refl _) _).1 hh]) hls
        exact finV false (by rw [← hinv.out, hne, Bool.and_false]; rfl)
      simp -dsimp [g0, g1, g5, g6, g7, hVx, hVy, hk, ht, hli, hls]
    clear g g0 g1 g5 g6 g7
    rintro g _ ⟨rfl, g0, g1, g5, g6, g7, hk, ht, hli, hls⟩
    rw [decide_eq_true hk, decide_eq_true ht, Bool.true_and, Bool.true_and] at hinv
    -- items
    refine awp_cutA (fun f H' => V = H' ∧ f 0 = Lk.sl a ∧ f 1 = Lk.sl b ∧ f 5 = I i ∧ f 6 = .bp u 0 ∧ f 7 = .bp v 0 ∧ (lkssEq x.subs y.subs && K) = E) ?_ ?_
    · refine awp_all (fun _ => false) (fun _ => none) (by kernel_rfl) ?_
      simp -dsimp [g0, g1, g5, g6, g7]
      refine loop_rule (hn := fun _ => false) (od := fun _ => none) (fun (j : Nat) f H' => V = H' ∧ f 0 = Lk.sl a ∧ f 1 = Lk.sl b ∧ f 5 = I i ∧ f 6 = .bp u 0 ∧ f 7 = .bp v 0 ∧ f 8 = I j ∧ j ≤ x.items.length ∧ (decide (x.items.drop j = y.items.drop j) && lkssEq x.subs y.subs && K) = E) (fun j => x.items.length - j) (by kernel_rfl) 0 (by
        simp [g0, g1, g5, g6, g7]
        simpa using hinv) ?_
      clear g g0 g1 g5 g6 g7 hinv
      rintro j g _ ⟨rfl, g0, g1, g5, g6, g7, g8, hj, hinv⟩
      simp -dsimp [g0, g1, g5, g6, g7, g8, hVx]
      refine condVW_introD (fun hjt => ?_) (fun hjt => ?_)
      · have hjt2 : j < y.items.length := by omega
        rw [drop_cons hjt, drop_cons hjt2] at hinv
        have e3 := List.getElem?_eq_getElem hjt
        have e4 := List.getElem?_eq_getElem hjt2
        obtain ⟨w, hw⟩ : ∃ w, w = x.items[j] := ⟨_, rfl⟩
        obtain ⟨z, hz⟩ : ∃ z, z = y.items[j] := ⟨_, rfl⟩
        rw [← hw] at hinv e3
        rw [← hz] at hinv e4
        clear hw hz
        simp -dsimp [g0, g1, g5, g6, g7, g8, hVx, hVy, e3, e4]
        refine condVW_introNE (fun h1 h1a h1b => ?_) (fun h1 => ?_)
        · simp -dsimp
          exact finV false (by rw [← hinv, decide_eq_false (by simp [h1])]; rfl)
        · simp -dsimp [g0, g1, g5, g6, g7, g8]
          subst h1
          exact ⟨j + 1, by omega, wrapS (by omega), by omega, by simpa using hinv⟩
      · have h1 : x.items.drop j = [] := List.drop_eq_nil_of_le (by omega)
        have h2 : y.items.drop j = [] := List.drop_eq_nil_of_le (by omega)
        rw [h1, h2] at hinv
        simp -dsimp [g0, g1, g5, g6, g7]
        simpa using hinv
    clear g g0 g1 g5 g6 g7 hinv
    rintro g _ ⟨rfl, g0, g1, g5, g6, g7, hinv⟩
    refine awp_all (fun _ => false) (fun _ => none) (by kernel_rfl) ?_
    simp -dsimp [g0, g1, g5, g6, g7]
    refine loop_rule (hn := fun _ => false) (od := fun _ => none) (fun (j : Nat) f H' => V = H' ∧ f 0 = Lk.sl a ∧ f 1 = Lk.sl b ∧ f 5 = I i ∧ f 6 = .bp u 0 ∧ f 7 = .bp v 0 ∧ f 9 = I j ∧ j ≤ x.subs.length ∧ (lkssEq (x.subs.drop j) (y.subs.drop j) && K) = E) (fun j => x.subs.length - j) (by kernel_rfl) 0 (by
      simp [g0, g1, g5, g6, g7]
      simpa using hinv) ?_
    clear g g0 g1 g5 g6 g7 hinv
    rintro j g _ ⟨rfl, g0, g1, g5, g6, g7, g9, hj, hinv⟩
    simp -dsimp [g0, g1, g5, g6, g7, g9, hVx]
    refine condVW_introD (fun hjt => ?_) (fun hjt => ?_)
    · have hjt2 : j < y.subs.length := by omega
      rw [drop_cons hjt, drop_cons hjt2, lkssEq] at hinv
      have hgs := lkss_get hjt
      have hgs2 := lkss_get hjt2
      have e3 := List.getElem?_eq_getElem hjt
      have e4 := List.getElem?_eq_getElem hjt2
      obtain ⟨w, hw⟩ : ∃ w, w = x.subs[j] := ⟨_, rfl⟩
      obtain ⟨z, hz⟩ : ∃ z, z = y.subs[j] := ⟨_, rfl⟩
      rw [← hw] at hinv e3 hgs
      rw [← hz] at hinv e4 hgs2
      clear hw hz
      have cr := ih w z (by omega) (by omega) (by omega) V
      simp -dsimp [g0, g1, g5, g6, g7, g9, hVx, hVy, e3, e4]
      refine callDW_intro cr ?_
      cases hwz : lksEq w z
      · rw [hwz] at hinv
        simp -dsimp
        exact finV false (by rw [← hinv]; rfl)
      · rw [hwz] at hinv
        simp -dsimp [g0, g1, g5, g6, g7, g9]
        exact ⟨j + 1, by omega, wrapS (by omega), by omega, by simpa using hinv⟩
    · have h1 : x.subs.drop j = [] := List.drop_eq_nil_of_le (by omega)
      have h2 : y.subs.drop j = [] := List.drop_eq_nil_of_le (by omega)
      rw [h1, h2, lkssEq] at hinv
      simp -dsimp [g0, g1, g5, g6, g7]
      exact ⟨hVH, hinv⟩
end Go.Proofs
namespace Go.Proofs
open Go.Mu
def kL : List Lk := [.mk 1 [8, 16] false [], .mk 2 [24] true [[.mk 1 [32] false []]]]
def kW : List Sn := [⟨false, false, 8⟩, ⟨false, false, 16⟩, ⟨false, false, 24⟩, ⟨true, false, 0⟩, ⟨false, false, 32⟩]
def kT : List Tm := [.mk 2 [[⟨3, 0, 100, true⟩]] false []]
def kM : List Lk := [.mk 1 [1116] false []]
def kU : List Tm := [.mk 4 [] true [[]]]
def kN : List Lk := [.mk 2 [] false [[]]]
abbrev nilV : AV := .v (.slice none 0 0)
theorem known1 (H : List Blk) : ACalls Try.prog 28 [.vs 4 [[I 1, U.sl [8, 16], Bo false, Lk.sls []], [I 2, U.sl [24], Bo true, .vs 1 [[.vs 4 [[I 1, U.sl [32], Bo false, Lk.sls []]]]]]]] H (fun e H' => e = .ret (.tup [Sn.sl kW, I 0]) ∧ H' = H) := by
  have := Flat_ok kL (by decide) H
  rw [show flatE kL = (kW, 0) by kernel_rfl] at this
  exact this
theorem known2 (H : List Blk) : ACalls Try.prog 37 [Sn.sl kW, Sn.sl kW] H (fun e H' => e = .ret (Bo true) ∧ H' = H) := by
  have := rseen_ok kW kW (by decide) (by decide) H
  rw [decide_eq_true rfl] at this
  exact this
theorem known3 (H : List Blk) : ACalls Try.prog 26 [.vs 4 [[I 2, .vs 1 [[.vs 4 [[I 3, I 0, U 100, Bo true]]]], Bo false, nilV]], .vs 4 [[I 1, U.sl [2], Bo false, Lk.sls []]], U 1000, Bo false] H (fun e H' => e = .ret (.tup [Lk.sl kM, I 0]) ∧ H' = H) := by
  have := rewrite_ok 1000 false 10 kT [.mk 1 [2] false []] (by decide) (by decide) (by decide) H
  rw [show rewE 1000 false 10 kT [.mk 1 [2] false []] = (kM, 0) by kernel_rfl] at this
  exact acalls_weak (.cons (.vsR (.cons (.cons (.refl _) (.cons (.refl _) (.cons (.refl _) (.cons (.nil 1) .nil)))) .nil)) (.refl _)) this
theorem known4 (H : List Blk) : ACalls Try.prog 26 [.vs 4 [[I 4, nilV, Bo true, .vs 1 [[nilV]]]], .vs 4 [[I 2, nilV, Bo false, .vs 1 [[nilV]]]], U 0, Bo false] H (fun e H' => e = .ret (.tup [Lk.sl [], I 2]) ∧ H' = H) := by
  have := rewrite_ok 0 false 10 kU kN (by decide) (by decide) (by decide) H
  rw [show rewE 0 false 10 kU kN = ([], 2) by kernel_rfl] at this
  have w : WeakR [[nilV]] [[.vs 4 []]] := .cons (.cons (.nil 4) .nil) .nil
  exact acalls_weak (.cons (.vsR (.cons (.cons (.refl _) (.cons (.nil 1) (.cons (.refl _) (.cons (.vsR w) .nil)))) .nil)) (.cons (.vsR (.cons (.cons (.refl _) (.cons (.nil 1) (.cons (.refl _) (.cons (.vsR w) .nil)))) .nil)) (.refl _))) this
theorem known5 (H : List Blk) : ACalls Try.prog 27 [Lk.sl kM, .vs 4 [[I 1, U.sl [1116], Bo false, Lk.sls []]]] H (fun e H' => e = .ret (Bo true) ∧ H' = H) := by
  have := rsame_ok 10 kM kM (by decide) (by decide) (by decide) H
  rw [show lksEq kM kM = true by kernel_rfl] at this
  exact this
theorem lknown_ok (H : List Blk) : ACalls Try.prog 22 [] H (fun e H' => e = .ret (Bo true) ∧ H' = H) := by
  refine acalls_tidy (acalls_of_vc (hn := fun _ => false) (od := fun _ => none) Try.func22 rfl (by kernel_rfl) ?_)
  simp -dsimp
  have cl := fun items H => line_fn items H
  simp only [Lk.cells_eq, Lk.kind, Lk.items, Lk.taken, Lk.subs] at cl
  refine acallsW_det (cl [8, 16] _) ?_
  simp -dsimp
  refine acallsW_det (cl [32] _) ?_
  simp -dsimp
  refine acallsW_det (known1 _) ?_
  simp -dsimp
  refine acallsW_det (cl [2] _) ?_
  simp -dsimp
  refine acallsW_det (known3 _) ?_
  simp -dsimp
  refine acallsW_det (known4 _) ?_
  simp -dsimp
  refine acallsW_det (known2 _) ?_
  simp -dsimp
  refine acallsW_det (cl [1116] _) ?_
  simp -dsimp
  refine acallsW_det (known5 _) ?_
  simp -dsimp
  exact tidy_now rfl ⟨rfl, rfl⟩
end Go.Proofs
namespace Go.Proofs
open Go.Mu
def nestL : Nat → List Lk
  | 0 => []
  | n + 1 => [.mk 2 [] true [nestL n]]
def nestV : Nat → AV
  | 0 => nilV
  | n + 1 => .vs 4 [[I 2, nilV, Bo true, .vs 1 [[nestV n]]]]
theorem nest_weak : ∀ n, Weak (nestV n) (Lk.sl (nestL n))
  | 0 => .nil 4
  | n + 1 => by
    rw [nestV, nestL]
    have := nest_weak n
    simp only [Lk.sl, List.map_cons, List.map_nil, Lk.cells_eq, Lk.kind, Lk.items, Lk.taken, Lk.subs]
    exact .vsR (.cons (.cons (.refl _) (.cons (.nil 1) (.cons (.refl _) (.cons (.vsR (.cons (.cons this .nil) .nil)) .nil)))) .nil)
theorem nest_cells : ∀ n, avCells (nestV n) = some [nestV n]
  | 0 => rfl
  | n + 1 => rfl
theorem nest_frz : ∀ n, (nestV n).frzB = true
  | 0 => rfl
  | n + 1 => rfl
theorem nest_one : ∀ n, (nestV n).one = true
  | 0 => rfl
  | n + 1 => rfl
theorem nest_count : ∀ n, lksCount (nestL n) = 2 * n
  | 0 => by simp [nestL, lksCount]
  | n + 1 => by rw [nestL, lksCount, lksCount, Lk.count_eq]; simp only [Lk.items, Lk.subs, lkssCount, nest_count n, List.length_nil]; omega
theorem nest_deep : ∀ n, lksDeep (nestL n) = n
  | 0 => by simp [nestL, lksDeep]
  | n + 1 => by rw [nestL, lksDeep, lksDeep, Lk.deep_eq]; simp only [Lk.subs, lkssDeep, nest_deep n]; omega
theorem nest_parts : ∀ n, lksParts (nestL n) = n
  | 0 => by simp [nestL, lksParts]
  | n + 1 => by rw [nestL, lksParts, lksParts, Lk.parts_eq]; simp only [Lk.subs, Lk.items, lkssParts, nest_parts n, List.length_nil]; omega
theorem nest_fits : ∀ n, lksFits (nestL n) = true
  | 0 => by simp [nestL, lksFits]
  | n + 1 => by rw [nestL, lksFits, lksFits, Lk.fits_eq]; simp only [Lk.subs, lkssFits, nest_fits n]; rfl
theorem nest_err : ∀ (n deep : Nat) (k : Int), 1 ≤ n → 514 ≤ deep + n → 0 ≤ k → k + n ≤ 1000000 → (lksTop deep (nestL n) (0, k)).1 = 12
  | 0, _, _, h, _, _, _ => by omega
  | n + 1, deep, k, _, h1, h2, h3 => by
    rw [nestL, lksTop, if_neg (by simp)]
    by_cases hd : 512 < deep
    · rw [if_pos ⟨by simp, hd⟩]
    · rw [if_neg (fun h => hd h.2), lksGo, lksGo, Lk.walk_eq]
      simp only [Lk.subs, Lk.items, List.length_nil]
      rw [lkssGo_cons, lkssGo, add_small (by omega), add_small (by simp; omega)]
      have := nest_err n (deep + 1) (k + 1 + min (((0 : Nat) : Int)) 1000001) (by omega) (by omega) (by simp; omega) (by simp; omega)
      exact this
theorem nest_why512 : whyE (nestL 512) = 0 := by
  rw [why_small (by rw [nest_deep]; exact Nat.le_refl _) (by rw [nest_parts]; omega), nest_fits]; rfl
theorem nest_top513 : (lksTop 1 (nestL 513) (0, 0)).1 = 12 := nest_err 513 1 0 (by omega) (by omega) (by omega) (by omega)
theorem nest_why513 : whyE (nestL 513) = 12 := by
  unfold whyE
  rw [nest_top513]; rfl
theorem ldeep_ok (H : List Blk) : ACalls Try.prog 8 [] H (fun e H' => e = .ret (Bo true) ∧ H' = H) := by
  refine acalls_tidy (acalls_of_vc (hn := fun _ => false) (od := fun _ => none) Try.func8 rfl (by kernel_rfl) ?_)
  have w0 := nest_weak 512
  have w1 := nest_weak 513
  have c1 : ∀ H, ACalls Try.prog 28 [nestV 512] H (fun e H' => e = .ret (.tup [Sn.sl (lksFlat (nestL 512)), I 0]) ∧ H' = H) := fun H => by
    have := Flat_ok (nestL 512) (by rw [nest_count]; omega) H
    rw [flatE, if_neg (by rw [nest_why512]; simp)] at this
    exact acalls_weak (.cons w0 .nil) this
  have c2 : ∀ H, ACalls Try.prog 29 [nestV 512] H (fun e H' => e = .ret (Bo true) ∧ H' = H) := fun H => by
    have := lmay_ok (nestL 512) (by rw [nest_count]; omega) H
    rw [may_why, nest_why512] at this
    exact acalls_weak (.cons w0 .nil) this
  have c3 : ∀ H, ACalls Try.prog 28 [nestV 513] H (fun e H' => e = .ret (.tup [Sn.sl [], I 12]) ∧ H' = H) := fun H => by
    have := Flat_ok (nestL 513) (by rw [nest_count]; omega) H
    rw [flatE, if_pos (by rw [nest_why513]; simp), nest_why513] at this
    exact acalls_weak (.cons w1 .nil) this
  have c4 : ∀ H, ACalls Try.prog 29 [nestV 513] H (fun e H' => e = .ret (Bo false) ∧ H' = H) := fun H => by
    have := lmay_ok (nestL 513) (by rw [nest_count]; omega) H
    rw [may_why, nest_why513] at this
    exact acalls_weak (.cons w1 .nil) this
  have c5 : ∀ H, ACalls Try.prog 26 [nilV, nestV 513, U 0, Bo true] H (fun e H' => e = .ret (.tup [Lk.sl [], I 12]) ∧ H' = H) := fun H => by
    have := rewrite_ok 0 true 2000 [] (nestL 513) (by rw [nest_count]; omega) (by decide) (by rw [nest_count]; omega) H
    rw [rewE, if_pos (by rw [nest_why513]; simp), nest_why513] at this
    exact acalls_weak (.cons (.nil 4) (.cons w1 (.refl _))) this
  clear w0 w1
  have hv : AV.vs 4 [[I 2, nilV, Bo true, .vs 1 [[nestV 512]]]] = nestV 513 := (rfl)
  simp -dsimp
  refine loop_rule (hn := fun _ => false) (od := fun _ => none) (fun (i : Nat) f H' => H' = H ∧ f 1 = nestV i ∧ f 2 = I i ∧ i ≤ 512) (fun i => 512 - i) (by kernel_rfl) 0 (by simp [nestV]) ?_
  rintro i g _ ⟨rfl, g1, g2, hi⟩
  simp -dsimp [nest_cells, nest_frz, nest_one, g1, g2]
  refine condVW_introD (fun hlt => ?_) (fun hlt => ?_)
  · simp -dsimp [nest_cells, nest_frz, nest_one, g1, g2]
    exact ⟨i + 1, by omega, rfl, wrapS (by omega), by omega⟩
  · obtain rfl : i = 512 := by omega
    simp -dsimp [nest_cells, nest_frz, nest_one, g1, g2]
    refine acallsW_det (c1 _) ?_
    simp -dsimp [nest_cells, nest_frz, nest_one, g1, g2]
    refine acallsW_det (c2 _) ?_
    simp -dsimp [nest_cells, nest_frz, nest_one, g1, g2, hv]
    refine acallsW_det (c3 _) ?_
    simp -dsimp [nest_cells, nest_frz, nest_one, g1, g2]
    refine acallsW_det (c5 _) ?_
    simp -dsimp [nest_cells, nest_frz, nest_one, g1, g2]
    refine acallsW_det (c4 _) ?_
    simp -dsimp [nest_cells, nest_frz, nest_one, g1, g2]
    refine acallsW_det (lknown_ok _) ?_
    simp -dsimp [nest_cells, nest_frz, nest_one, g1, g2]
    exact tidy_now rfl ⟨rfl, rfl⟩
end Go.Proofs
