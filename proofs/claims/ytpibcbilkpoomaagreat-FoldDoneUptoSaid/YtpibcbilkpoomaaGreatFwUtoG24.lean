/- A region whose order of evaluation is drawn, in which two operations that change something may come in either order. -/
import Derived.Test.YtpibcbilkpoomaaGreatFwQtoFwT
import Derived.Test.YtpibcbilkpoomaaGreatG21
set_option linter.unusedVariables false
set_option linter.unusedSimpArgs false
set_option maxHeartbeats 4000000
set_option maxRecDepth 100000
namespace Go.Mu
section
variable {P : Program} {n : Nat} {pu : Nat → Bool} {ops : Array Oper} {Q : AQ}
theorem sinv_ready {hf : Oper → Bool} (hsm : ∀ (i : Nat) (o : Oper), ops[i]? = some o → smallO n ops o = true)
    (hlt : ∀ (j : Nat) (o : Oper), ops[j]? = some o → ∀ e ∈ o.after, Region.binds .any e = true → e.on < j) {done rem L : List Nat} {listed : Array Bool} {f fa : Fr} {H : List Blk} (hi : SInv P pu hf ops done rem L listed f fa H) (hn : Region.ready .any ops listed = []) : rem = [] ∧ L = [] := by
  have key : ∀ i, i < ops.size → listed.getD i false = true := by
    intro i
    induction i using Nat.strongRecOn with
    | ind i ih =>
      intro hlt'
      cases hl : listed.getD i false with
      | true => rfl
      | false =>
        exfalso
        have ho : ops[i]? = some (ops[i]'hlt') := Array.getElem?_eq_getElem hlt'
        have : i ∈ Region.ready .any ops listed := mem_ready.2 ⟨by rw [getD_tf (by rw [hi.size]; exact hlt')]; exact hl, _, ho, fun e he hb => ih e.on (hlt i _ ho e he hb) (Nat.lt_trans (hlt i _ ho e he hb) hlt')⟩
        rw [hn] at this; cases this
  constructor
  · refine List.eq_nil_iff_forall_not_mem.2 fun i hir => ?_
    have hl := hi.remlt i hir
    have := (hi.un i hl).2 (.inl hir)
    rw [key i hl] at this; cases this
  · refine List.eq_nil_iff_forall_not_mem.2 fun i hiL => ?_
    obtain ⟨_, o, ho, _⟩ := hi.good i hiL
    have hl := (Array.getElem?_eq_some_iff.1 ho).1
    have := (hi.un i hl).2 (.inr hiL)
    rw [key i hl] at this; cases this
theorem sinv_late {hf : Oper → Bool} (hsm : ∀ (i : Nat) (o : Oper), ops[i]? = some o → smallO n ops o = true)
    (hlt : ∀ (j : Nat) (o : Oper), ops[j]? = some o → ∀ e ∈ o.after, Region.binds .any e = true → e.on < j) {done rem L : List Nat} {listed : Array Bool} {f fa : Fr} {H : List Blk} {i : Nat} (hi : SInv P pu hf ops done rem L listed f fa H) (hr : i ∈ Region.ready .any ops listed) (hiL : i ∈ L) :
      ∃ o r, ops[i]? = some o ∧ pu i = true ∧ StepD P ops o fa H r ∧ SInv P pu hf ops done rem (L.erase i) (listed.setIfInBounds i true) f (updO fa o.dst r) H := by
  obtain ⟨hirem, o, ho, hpu, hl1, hl2, r, hr1, hr2, hr3⟩ := hi.good i hiL
  have hlti := (Array.getElem?_eq_some_iff.1 ho).1
  obtain ⟨m1, o', m2, m3⟩ := mem_ready.1 hr
  rw [ho] at m2; cases m2
  have hag : ∀ t ∈ o.looksAt ops, f t = fa t := by
    intro t ht
    refine (hi.agree t fun k hk ok hok hd => ?_).symm
    obtain ⟨_, o2, ho2, _, g1, _⟩ := hi.good k hk
    rw [hok] at ho2; cases ho2
    have hre := g1 i o t ho hd ht
    have hkl := reach_listed hi.closed hre fun o3 h3 e he hb => by rw [ho] at h3; cases h3; exact m3 e he hb
    have := (hi.un k (Array.getElem?_eq_some_iff.1 hok).1).2 (.inr hk)
    rw [hkl] at this; cases this
  refine ⟨o, r, ho, hpu, stepD_congr (hsm i o ho) hag hr1, by simp [hi.size], fun k hk => ?_, hi.remlt, closed_set hi.closed hr, hi.dn, hi.dclosed, hi.nodup.erase i, hi.rnodup, fun k hk => hi.good k (List.mem_of_mem_erase hk), fun t ht => ?_⟩
  · rw [getD_set (by rw [hi.size]; exact hlti), hi.nodup.mem_erase_iff]
    by_cases hki : k = i
    · subst hki; simp [hirem]
    · rw [if_neg hki, hi.un k hk]; simp [hki]
  · cases hd : o.dst with
    | none =>
      refine hi.agree t fun k hk ok hok => ?_
      by_cases hki : k = i
      · subst hki; rw [ho] at hok; cases hok; rw [hd]; simp
      · exact ht k (hi.nodup.mem_erase_iff.2 ⟨hki, hk⟩) ok hok
    | some d =>
      simp only [updO, upd]
      by_cases htd : t = d
      · subst htd; rw [if_pos rfl]; exact (hr3 _ hd).symm
      · rw [if_neg htd]
        refine hi.agree t fun k hk ok hok => ?_
        by_cases hki : k = i
        · subst hki; rw [ho] at hok; cases hok; rw [hd]; simpa using fun e => htd e.symm
        · exact ht k (hi.nodup.mem_erase_iff.2 ⟨hki, hk⟩) ok hok
theorem vx_imp {tab : List (Nat × Oper × Nat)} (htab : TabOk ops tab) {hf : Oper → Bool} (hsm : ∀ (i : Nat) (o : Oper), ops[i]? = some o → smallO n ops o = true)
    (hlt : ∀ (j : Nat) (o : Oper), ops[j]? = some o → ∀ e ∈ o.after, Region.binds .any e = true → e.on < j) {ds : List ADef} {p : OPlan} {fuel : Nat} {done rem L : List Nat} {listed : Array Bool} {f fa : Fr} {H : List Blk} {i0 : Nat} {lt : List Nat} {oi : Oper}
    (hi : SInv P pu hf ops done rem L listed f fa H) (hir : i0 ∈ Region.ready .any ops listed) (ho0 : ops[i0]? = some oi) (hpu : pu i0 = false) (hrd : readyB ops rem i0 = true)
    (hop2 : (done.all fun j => (maskOf tab i0).testBit j || !pu j || (match ops[j]? with | none => false | some oj => pu j && !lookB ops oj oi && (lt.contains j || hf oj))) = true)
    (hrest : planX pu hf ops tab (i0 :: done) (rem.erase i0) p = true) (hfu : rem.length + L.length ≤ fuel + 1)
    (hv : StepB P ops oi f H ds Q (fun f' H' => (∀ j ∈ lt, ∀ oj, ops[j]? = some oj → ∃ r, StepD P ops oj f' H' r ∧ ∀ d, oj.dst = some d → f' d = r) ∧ VX P pu hf ops Q ds p f' H')) :
    StepB P ops oi fa H ds Q (fun f' H' => AA P pu ops Q ds fuel (listed.setIfInBounds i0 true) f' H') := by
  have hrd' := hrd
  simp only [readyB, Bool.and_eq_true, List.contains_iff_mem] at hrd'
  obtain ⟨hi0r, hedges⟩ := hrd'
  have hi0l := hi.remlt _ hi0r
  have hlen0 := List.length_erase_of_mem hi0r
  have hpos0 := List.length_pos_of_mem hi0r
  rw [ho0] at hedges
  simp only at hedges
  simp only [List.all_eq_true, Bool.or_eq_true] at hop2
  have hed : ∀ e ∈ oi.after, Region.binds .any e = true → e.on ∉ rem := by
    intro e he hb hm
    have := List.all_eq_true.1 hedges e (by simpa using he)
    simp only [hb, Bool.not_true, Bool.false_or, Bool.and_eq_true, Bool.not_eq_true'] at this
    rw [List.contains_iff_mem.2 hm] at this; exact absurd this.1 (by simp)
  have hdn : ∀ i, i < ops.size → (i ∈ i0 :: done ↔ i ∉ rem.erase i0) := by
    intro i hil
    rw [hi.rnodup.mem_erase_iff, List.mem_cons, hi.dn i hil]
    by_cases h : i = i0
    · subst h; simp
    · simp [h]
  have hdc : ∀ i o, ops[i]? = some o → i ∉ rem.erase i0 → ∀ e ∈ o.after, Region.binds .any e = true → e.on ∉ rem.erase i0 := by
    intro i o ho hnm e he hb hm
    have hm' := List.mem_of_mem_erase hm
    by_cases h : i = i0
    · subst h; rw [ho0] at ho; cases ho; exact hed e he hb hm'
    · refine hi.dclosed i o ho (fun hir => hnm (hi.rnodup.mem_erase_iff.2 ⟨h, hir⟩)) e he hb hm'
  obtain ⟨m1, o, m2, m3⟩ := mem_ready.1 hir
  have hil := (Array.getElem?_eq_some_iff.1 m2).1
  have hag : ∀ t ∈ oi.looksAt ops, f t = fa t := by
    intro t ht
    refine (hi.agree t fun k hk ok hok hd => ?_).symm
    obtain ⟨_, o2, ho2, _, g1, _⟩ := hi.good k hk
    rw [hok] at ho2; cases ho2
    have hre := g1 i0 oi t ho0 hd ht
    have hkl := reach_listed hi.closed hre fun o3 h3 e he hb => by rw [m2] at h3; cases h3; exact m3 e he hb
    have := (hi.un k (Array.getElem?_eq_some_iff.1 hok).1).2 (.inr hk)
    rw [hkl] at this; cases this
  rw [ho0] at m2; cases m2
  have hmask : maskFr ops f = maskFr ops fa := by
    funext t
    unfold maskFr
    split
    · rfl
    · rename_i hno
      refine (hi.agree t fun j hj o ho hd => hno ?_).symm
      rw [Array.any_eq_true']
      exact ⟨o, Array.mem_of_getElem? ho, by simp [hd]⟩
  refine stepB_congr (hsm _ _ ho0) hag hmask (fun r H' hk => ?_) hv
  obtain ⟨hlate, hv'⟩ := hk
  refine vx_sound htab hsm hlt p fuel (i0 :: done) (rem.erase i0) L _ (updO f oi.dst r) (updO fa oi.dst r) H' hrest ?_ (by omega) hv'
  refine ⟨by simp [hi.size], fun k hkl => ?_, fun k h => hi.remlt k (List.mem_of_mem_erase h), closed_set hi.closed hir, hdn, hdc, hi.nodup, hi.rnodup.erase i0, fun j hj => ?_, fun t ht => ?_⟩
  · rw [getD_set (by rw [hi.size]; exact hi0l), hi.rnodup.mem_erase_iff]
    by_cases h : k = i0
    · subst h; simp; exact fun h => (hi.good k h).1 hi0r
    · rw [if_neg h, hi.un k hkl]; simp [h]
  · obtain ⟨hjr, o, ho, g1, g2, g3, r', h1, h2, h3⟩ := hi.good j hj
    have hjl := (Array.getElem?_eq_some_iff.1 ho).1
    have hjd : j ∈ done := (hi.dn j hjl).2 hjr
    have hnre : (maskOf tab i0).testBit j ≠ true := fun h => by
      have := reach_listed hi.closed (maskOf_spec htab h) fun o' ho' e he hb => m3 e (by rw [ho0] at ho'; cases ho'; exact he) hb
      have h2 := (hi.un j hjl).2 (.inr hj)
      rw [this] at h2; cases h2
    have hcl := (hop2 j hjd).resolve_left (fun h => h.elim hnre fun h => by rw [(hi.good j hj).2.choose_spec.2.1] at h; cases h)
    rw [ho] at hcl
    simp only [Bool.and_eq_true, Bool.or_eq_true, Bool.not_eq_true'] at hcl
    obtain ⟨⟨_, hlook⟩, hlf⟩ := hcl
    have hun : ∀ t ∈ o.looksAt ops, f t = updO f oi.dst r t := by
      intro t ht
      refine (updO_of_not (l := o.looksAt ops) (fun d hd hm => ?_) t ht).symm
      simp only [lookB, hd] at hlook
      rw [List.contains_iff_mem.2 hm] at hlook; cases hlook
    have hdst : ∀ d, o.dst = some d → updO f oi.dst r d = f d := by
      intro d hd
      have hne : oi.dst ≠ some d := g3 i0 oi d ho0 (fun e => hjr (e ▸ hi0r)) hd
      cases hd0 : oi.dst with
      | none => rfl
      | some d0 => simp only [updO, upd]; rw [if_neg]; rintro rfl; exact hne hd0
    refine ⟨fun h => hjr (List.mem_of_mem_erase h), o, ho, g1, g2, g3, ?_⟩
    by_cases hh : hf o = true
    · exact ⟨r', stepD_congr (hsm _ _ ho) hun (h2 hh H'), fun h H'' => stepD_congr (hsm _ _ ho) hun (h2 h H''), fun d hd => by rw [hdst d hd]; exact h3 d hd⟩
    · have hjlate : j ∈ lt := List.contains_iff_mem.1 (hlf.resolve_right hh)
      obtain ⟨r2, q1, q2⟩ := hlate j hjlate o ho
      exact ⟨r2, q1, fun h => absurd h hh, q2⟩
  · cases hd0 : oi.dst with
    | none => exact hi.agree t ht
    | some d0 =>
      simp only [updO, upd]
      by_cases htd : t = d0
      · rw [if_pos htd, if_pos htd]
      · rw [if_neg htd, if_neg htd]; exact hi.agree t ht
structure Fork where
  pre : List Nat
  (i j : Nat)
  (li lj : List Nat)
  (pi pj : OPlan)
def headB (pu : Nat → Bool) (hf : Oper → Bool) (ops : Array Oper) (tab : List (Nat × Oper × Nat)) (done rem : List Nat) (i : Nat) (lt : List Nat) (p : OPlan) : Bool :=
  readyB ops rem i && !pu i && (match ops[i]? with
    | none => false
    | some oi => done.all fun j => (maskOf tab i).testBit j || !pu j || (match ops[j]? with | none => false | some oj => pu j && !lookB ops oj oi && (lt.contains j || hf oj))) &&
  planX pu hf ops tab (i :: done) (rem.erase i) p
def planF (pu : Nat → Bool) (hf : Oper → Bool) (ops : Array Oper) (tab : List (Nat × Oper × Nat)) (k : Fork) : List Nat → List Nat → List Nat → Bool
  | done, rem, [] => (rem.all fun x => x == k.i || x == k.j || (maskOf tab x).testBit k.i || (maskOf tab x).testBit k.j) && headB pu hf ops tab done rem k.i k.li k.pi && headB pu hf ops tab done rem k.j k.lj k.pj
  | done, rem, i :: rest => readyB ops rem i && pu i && (match ops[i]? with | none => false | some oi => aloneB ops tab i oi) && planF pu hf ops tab k (i :: done) (rem.erase i) rest
def VF (P : Program) (pu : Nat → Bool) (hf : Oper → Bool) (ops : Array Oper) (Q : AQ) (ds : List ADef) (k : Fork) : List Nat → Fr → List Blk → Prop
  | [], f, H => VX P pu hf ops Q ds ((k.i, k.li) :: k.pi) f H ∧ VX P pu hf ops Q ds ((k.j, k.lj) :: k.pj) f H
  | i :: rest, f, H => match ops[i]? with
    | none => False
    | some o => ∃ r, StepD P ops o f H r ∧ (hf o = true → ∀ H', StepD P ops o f H' r) ∧ VF P pu hf ops Q ds k rest (updO f o.dst r) H
theorem vf_sound {tab : List (Nat × Oper × Nat)} (htab : TabOk ops tab) {hf : Oper → Bool} (hsm : ∀ (i : Nat) (o : Oper), ops[i]? = some o → smallO n ops o = true)
    (hlt : ∀ (j : Nat) (o : Oper), ops[j]? = some o → ∀ e ∈ o.after, Region.binds .any e = true → e.on < j) {ds : List ADef} {k : Fork} : ∀ (p : List Nat) (fuel : Nat) (done rem L : List Nat) (listed : Array Bool) (f fa : Fr) (H : List Blk), planF pu hf ops tab k done rem p = true → SInv P pu hf ops done rem L listed f fa H → rem.length + L.length ≤ fuel →
    VF P pu hf ops Q ds k p f H → AA P pu ops Q ds fuel listed fa H := by
  intro p
  induction p with
  | nil =>
    intro fuel
    induction fuel with
    | zero =>
      intro done rem L listed f fa H hc hi hfu hv
      exfalso
      simp only [planF, headB, readyB, Bool.and_eq_true, List.contains_iff_mem] at hc
      have := List.length_pos_of_mem hc.2.1.1.1.1
      omega
    | succ fuel ih =>
      intro done rem L listed f fa H hc hi hfu hv
      have hc0 := hc
      simp only [planF, Bool.and_eq_true] at hc
      obtain ⟨⟨hall, hhi⟩, hhj⟩ := hc
      obtain ⟨hvi, hvj⟩ := hv
      have step : ∀ (x : Nat) (lt : List Nat) (pl : OPlan), headB pu hf ops tab done rem x lt pl = true → VX P pu hf ops Q ds ((x, lt) :: pl) f H → x ∈ Region.ready .any ops listed →
          ∃ o, ops[x]? = some o ∧ if pu x = true then ∃ r, StepD P ops o fa H r ∧ AA P pu ops Q ds fuel (listed.setIfInBounds x true) (updO fa o.dst r) H else StepB P ops o fa H ds Q (fun f' H' => AA P pu ops Q ds fuel (listed.setIfInBounds x true) f' H') := by
        intro x lt pl hh hvx hxr
        simp only [headB, Bool.and_eq_true, Bool.not_eq_true'] at hh
        obtain ⟨⟨⟨h1, h2⟩, h3⟩, h4⟩ := hh
        cases ho : ops[x]? with
        | none => rw [ho] at h3; cases h3
        | some o =>
          rw [ho] at h3
          simp only [VX, ho, h2, Bool.false_eq_true, if_false] at hvx
          refine ⟨o, rfl, ?_⟩
          rw [if_neg (by simp [h2])]
          exact vx_imp htab hsm hlt hi hxr ho h2 h1 h3 h4 hfu hvx
      refine ⟨fun hn => ?_, fun x hir => ?_⟩
      · obtain ⟨rfl, _⟩ := sinv_ready hsm hlt hi hn
        simp only [headB, readyB, Bool.and_eq_true, List.contains_iff_mem] at hhi
        cases hhi.1.1.1.1
      · obtain ⟨m1, o, m2, m3⟩ := mem_ready.1 hir
        have hil := (Array.getElem?_eq_some_iff.1 m2).1
        rw [getD_tf (by rw [hi.size]; exact hil)] at m1
        rcases (hi.un x hil).1 m1 with hm | hm
        · have hx := List.all_eq_true.1 hall x hm
          simp only [Bool.or_eq_true, beq_iff_eq] at hx
          have no : ∀ y, y ∈ rem → (maskOf tab x).testBit y = true → False := fun y hy hb => by
            have := reach_listed hi.closed (maskOf_spec htab hb) fun o' ho' e he hb => m3 e (by rw [m2] at ho'; cases ho'; exact he) hb
            have h2 := (hi.un y (hi.remlt y hy)).2 (.inl hy)
            rw [this] at h2; cases h2
          have hri : k.i ∈ rem := by simp only [headB, readyB, Bool.and_eq_true, List.contains_iff_mem] at hhi; exact hhi.1.1.1.1
          have hrj : k.j ∈ rem := by simp only [headB, readyB, Bool.and_eq_true, List.contains_iff_mem] at hhj; exact hhj.1.1.1.1
          rcases hx with ((hx | hx) | hx) | hx
          · subst hx; exact step _ _ _ hhi hvi hir
          · subst hx; exact step _ _ _ hhj hvj hir
          · exact (no _ hri hx).elim
          · exact (no _ hrj hx).elim
        · obtain ⟨o', r, ho, hpu', hst, hinv⟩ := sinv_late hsm hlt hi hir hm
          refine ⟨o', ho, ?_⟩
          rw [if_pos hpu']
          have hlen := List.length_erase_of_mem hm
          have hpos := List.length_pos_of_mem hm
          exact ⟨r, hst, ih done rem (L.erase x) _ f _ H hc0 hinv (by omega) ⟨hvi, hvj⟩⟩
  | cons i0 p ihp =>
    intro fuel done rem L listed f fa H hc hi hfu hv
    simp only [planF, Bool.and_eq_true] at hc
    obtain ⟨⟨⟨hrd, hpu⟩, hop⟩, hrest⟩ := hc
    have hrd' := hrd
    simp only [readyB, Bool.and_eq_true, List.contains_iff_mem] at hrd'
    obtain ⟨hi0r, hedges⟩ := hrd'
    have hi0l := hi.remlt _ hi0r
    have ho0 : ops[i0]? = some (ops[i0]'hi0l) := Array.getElem?_eq_getElem hi0l
    generalize ops[i0]'hi0l = oi at ho0
    have hlen0 := List.length_erase_of_mem hi0r
    have hpos0 := List.length_pos_of_mem hi0r
    rw [ho0] at hop hedges
    simp only at hop hedges
    simp only [VF, ho0] at hv
    have hed : ∀ e ∈ oi.after, Region.binds .any e = true → e.on ∉ rem := by
      intro e he hb hm
      have := List.all_eq_true.1 hedges e (by simpa using he)
      simp only [hb, Bool.not_true, Bool.false_or, Bool.and_eq_true, Bool.not_eq_true'] at this
      rw [List.contains_iff_mem.2 hm] at this; exact absurd this.1 (by simp)
    have hdn : ∀ i, i < ops.size → (i ∈ i0 :: done ↔ i ∉ rem.erase i0) := by
      intro i hil
      rw [hi.rnodup.mem_erase_iff, List.mem_cons, hi.dn i hil]
      by_cases h : i = i0
      · subst h; simp
      · simp [h]
    have hdc : ∀ i o, ops[i]? = some o → i ∉ rem.erase i0 → ∀ e ∈ o.after, Region.binds .any e = true → e.on ∉ rem.erase i0 := by
      intro i o ho hnm e he hb hm
      have hm' := List.mem_of_mem_erase hm
      by_cases h : i = i0
      · subst h; rw [ho0] at ho; cases ho; exact hed e he hb hm'
      · refine hi.dclosed i o ho (fun hir => hnm (hi.rnodup.mem_erase_iff.2 ⟨h, hir⟩)) e he hb hm'
    obtain ⟨r, hr1, hr2, hv'⟩ := hv
    have hal1 : ∀ k ok d, ops[k]? = some ok → oi.dst = some d → d ∈ ok.looksAt ops → Reach ops k i0 := by
      intro k ok d hok hd hm
      simp only [aloneB, hd, List.all_eq_true, List.mem_range] at hop
      have := hop k (Array.getElem?_eq_some_iff.1 hok).1
      rw [hok] at this
      simp only [Bool.and_eq_true, Bool.or_eq_true, Bool.not_eq_true'] at this
      rcases this.1 with h | h
      · rw [List.contains_iff_mem.2 hm] at h; cases h
      · exact maskOf_spec htab h
    have hal2 : ∀ k ok d, ops[k]? = some ok → k ≠ i0 → oi.dst = some d → ok.dst ≠ some d := by
      intro k ok d hok hne hd
      simp only [aloneB, hd, List.all_eq_true, List.mem_range] at hop
      have := hop k (Array.getElem?_eq_some_iff.1 hok).1
      rw [hok] at this
      simp only [Bool.and_eq_true, Bool.or_eq_true, beq_iff_eq, bne_iff_ne] at this
      exact this.2.resolve_left hne
    have hun : ∀ o : Oper, (∃ j, ops[j]? = some o ∧ ¬ Reach ops j i0) → ∀ t ∈ o.looksAt ops, f t = updO f oi.dst r t := by
      rintro o ⟨j, hj, hnr⟩ t ht
      refine (updO_of_not (l := o.looksAt ops) (fun d hd hm => hnr (hal1 j o d hj hd hm)) t ht).symm
    refine ihp fuel (i0 :: done) (rem.erase i0) (i0 :: L) listed (updO f oi.dst r) fa H hrest ?_ (by simp; omega) hv'
    have hi0L : i0 ∉ L := fun h => (hi.good i0 h).1 hi0r
    refine ⟨hi.size, fun i hil => ?_, fun i h => hi.remlt i (List.mem_of_mem_erase h), hi.closed, hdn, hdc, List.nodup_cons.2 ⟨hi0L, hi.nodup⟩, hi.rnodup.erase i0, fun j hj => ?_, fun t ht => ?_⟩
    · rw [hi.un i hil, hi.rnodup.mem_erase_iff, List.mem_cons]
      by_cases h : i = i0
      · subst h; simp [hi0r]
      · simp [h]
    · rcases List.mem_cons.1 hj with rfl | hj
      · refine ⟨fun h => (hi.rnodup.mem_erase_iff.1 h).1 rfl, oi, ho0, hpu, hal1, hal2, r, ?_, ?_, ?_⟩
        · exact stepD_congr (hsm _ _ ho0) (hun oi ⟨_, ho0, fun h => Nat.lt_irrefl _ (reach_lt hlt h)⟩) hr1
        · exact fun h H' => stepD_congr (hsm _ _ ho0) (hun oi ⟨_, ho0, fun h => Nat.lt_irrefl _ (reach_lt hlt h)⟩) (hr2 h H')
        · intro d hd; simp [updO, upd, hd]
      · obtain ⟨hjr, o, ho, g1, g2, g3, r', h1, h2, h3⟩ := hi.good j hj
        have hnr : ¬ Reach ops j i0 := fun h => reach_closed (S := fun k => k ∉ rem) (fun i o ho hn e he hb => hi.dclosed i o ho hn e he hb) h hjr hi0r
        refine ⟨fun h => hjr (List.mem_of_mem_erase h), o, ho, g1, g2, g3, r', stepD_congr (hsm _ _ ho) (hun o ⟨j, ho, hnr⟩) h1, fun h H' => stepD_congr (hsm _ _ ho) (hun o ⟨j, ho, hnr⟩) (h2 h H'), fun d hd => ?_⟩
        have hne : oi.dst ≠ some d := g3 i0 oi d ho0 (fun e => hjr (e ▸ hi0r)) hd
        rw [← h3 d hd]
        cases hd0 : oi.dst with
        | none => rfl
        | some d0 => simp only [updO, upd]; rw [if_neg]; rintro rfl; exact hne hd0
    · have e1 : fa t = f t := hi.agree t fun j hj o ho => ht j (List.mem_cons_of_mem _ hj) o ho
      rw [e1]
      have e2 := ht i0 (by simp) oi ho0
      cases hd0 : oi.dst with
      | none => rfl
      | some d0 => simp only [updO, upd]; rw [if_neg]; rintro rfl; exact e2 hd0
variable {hn : Nat → Bool}
theorem vx_head {ops : Array Oper} {Q : AQ} {ds : List ADef} (hnd : ops.all noDefer = true) {tab : List (Nat × Oper × Nat)} {done rem : List Nat} {i : Nat} {late : List Nat} {p : OPlan} {f : Fr} {H : List Blk}
    (hc : headB (puOf (pureOp hn) ops) hfreeOp ops tab done rem i late p = true) (hl : ∀ x ∈ (i, late) :: p, ∀ j ∈ x.2, ∀ o, ops[j]? = some o → puOf (pureOp hn) ops j = true) (h : vcX P hn ops Q ds ((i, late) :: p) f H) : VX P (puOf (pureOp hn) ops) hfreeOp ops Q ds ((i, late) :: p) f H := by
  simp only [headB, Bool.and_eq_true, Bool.not_eq_true'] at hc
  obtain ⟨⟨⟨hrd, hpu⟩, hop⟩, hrest⟩ := hc
  simp only [vcX] at h
  simp only [VX]
  cases ho : ops[i]? with
  | none => rw [ho] at hop; cases hop
  | some o =>
    have hndo : noDefer o = true := Array.all_eq_true_iff_forall_mem.1 hnd _ (Array.mem_of_getElem? ho)
    have hone : opsAt ops [i] = [o] := by simp [opsAt, ho]
    rw [hone] at h
    simp only [hpu, Bool.false_eq_true, if_false]
    refine stepB_mono (fun f' H' hk => ⟨fun j hj oj hoj => ?_, vx_of_vcX hnd p _ _ _ _ hrest (fun x hx => hl x (by simp [hx])) hk.2⟩) (one_bar (Q := Q) (Q' := thenQ (fun f' H' _ => lateV P hn ops f' H' (opsAt ops late) ∧ vcX P hn ops Q ds p f' H') Q) (fun _ _ _ _ h => h) hndo h)
    have hpj := hl (i, late) (by simp) j hj oj hoj
    have hndj : noDefer oj = true := Array.all_eq_true_iff_forall_mem.1 hnd _ (Array.mem_of_getElem? hoj)
    have hv := lateV_mem hk.1 oj (by simp only [opsAt, List.mem_filterMap]; exact ⟨j, hj, hoj⟩)
    obtain ⟨r, h1, _, h3⟩ := one_det hndj (pureOf_pu hoj hpj) hv
    refine ⟨r, h1, fun d hd => ?_⟩
    simp only [lateQ, hd] at h3
    have := h3.2
    simpa [updO, upd] using this.symm
def forkQ (P : Program) (hn : Nat → Bool) (ops : Array Oper) (Q : AQ) (ds : List ADef) (k : Fork) : AQ := fun x f H ds' => match x with
  | .normal => vcX P hn ops Q ds ((k.i, k.li) :: k.pi) f H ∧ vcX P hn ops Q ds ((k.j, k.lj) :: k.pj) f H
  | x => Q x f H ds'
theorem vf_of_vcX {ops : Array Oper} {Q : AQ} {ds : List ADef} {k : Fork} (hnd : ops.all noDefer = true) {tab : List (Nat × Oper × Nat)} (hli : ∀ x ∈ (k.i, k.li) :: k.pi, ∀ j ∈ x.2, ∀ o, ops[j]? = some o → puOf (pureOp hn) ops j = true) (hlj : ∀ x ∈ (k.j, k.lj) :: k.pj, ∀ j ∈ x.2, ∀ o, ops[j]? = some o → puOf (pureOp hn) ops j = true) :
    ∀ (p done rem : List Nat) (f : Fr) (H : List Blk), planF (puOf (pureOp hn) ops) hfreeOp ops tab k done rem p = true → vcX P hn ops (forkQ P hn ops Q ds k) ds (p.map fun i => (i, [])) f H → VF P (puOf (pureOp hn) ops) hfreeOp ops Q ds k p f H
  | [], done, rem, f, H, hc, h => by
    simp only [planF, Bool.and_eq_true] at hc
    exact ⟨vx_head hnd hc.1.2 hli h.1, vx_head hnd hc.2 hlj h.2⟩
  | i :: p, done, rem, f, H, hc, h => by
    simp only [planF, Bool.and_eq_true] at hc
    obtain ⟨⟨⟨hrd, hpu⟩, hop⟩, hrest⟩ := hc
    simp only [List.map_cons, vcX] at h
    simp only [VF]
    cases ho : ops[i]? with
    | none => rw [ho] at hop; cases hop
    | some o =>
      have hndo : noDefer o = true := Array.all_eq_true_iff_forall_mem.1 hnd _ (Array.mem_of_getElem? ho)
      have hone : opsAt ops [i] = [o] := by simp [opsAt, ho]
      rw [hone] at h
      obtain ⟨r, h1, h2, h3⟩ := one_det hndo (pureOf_pu ho hpu) h
      exact ⟨r, h1, h2, vf_of_vcX hnd hli hlj p _ _ _ _ hrest h3.2⟩
def forkB (hn : Nat → Bool) (n : Nat) (ops : Array Oper) (k : Fork) : Bool :=
  ops.toList.all (smallO n ops) && planF (puOf (pureOp hn) ops) hfreeOp ops (mkTab ops [] (List.range ops.size)) k [] (List.range ops.size) k.pre && lateB (puOf (pureOp hn) ops) ops ((k.i, k.li) :: k.pi) && lateB (puOf (pureOp hn) ops) ops ((k.j, k.lj) :: k.pj) &&
  ((List.range ops.size).all fun j => match ops[j]? with
    | none => true
    | some o => o.after.toList.all fun e => !Region.binds .any e || decide (e.on < j)) && ops.all noDefer
theorem awp_region_fork (hn : Nat → Bool) (k : Fork) {id : Nat} {ops : Array Oper} {Q : AQ} {f : Fr} {H : List Blk} {ds : List ADef} (hs : (forkB hn n ops k && P.follows .mixedOrders) = true)
    (h : vcX P hn ops (forkQ P hn ops Q ds k) ds (k.pre.map fun i => (i, [])) f H) : AWP P n (.region id ops true) Q f H ds := by
  simp only [forkB, Bool.and_eq_true, List.all_eq_true] at hs
  obtain ⟨⟨⟨⟨⟨⟨hs1, hs2⟩, hs3⟩, hs4⟩, hs5⟩, hs6⟩, hm⟩ := hs
  have hsm : ∀ (i : Nat) (o : Oper), ops[i]? = some o → smallO n ops o = true := fun i o ho => hs1 o (by simpa using Array.mem_of_getElem? ho)
  have lt : ∀ p : OPlan, lateB (puOf (pureOp hn) ops) ops p = true → ∀ x ∈ p, ∀ j ∈ x.2, ∀ o, ops[j]? = some o → puOf (pureOp hn) ops j = true := fun p hp x hx j hj o ho => by
    simp only [lateB, List.all_eq_true] at hp
    have := hp x hx j hj
    rw [ho] at this; exact this
  have hv := vf_of_vcX hs6 (lt _ hs3) (lt _ hs4) k.pre [] (List.range ops.size) f H hs2 h
  intro ro hro B w0 cx0 cx a h1 h2 h3 h4 h5
  subst h3
  refine wpIn_region_any hm ?_
  refine aa_sound (P := P) (pu := puOf (pureOp hn) ops) (Q := Q) (B := B) (w0 := w0) (cx0 := cx0) (ro := ro) (fun i o ho hs => by have := hro hs; simp only [noDefC, List.all_eq_true] at this; exact this o (by simpa using Array.mem_of_getElem? ho)) hsm ops.size (Array.replicate ops.size false) f cx.drew a ?_ (hrel_drew h1) (h2.trans (le_drew cx)) (h4.mono (le_drew cx)) (h5.mono (le_drew cx))
  refine vf_sound (hf := hfreeOp) (mkTab_ok (List.range ops.size) [] (fun d hd => (by cases hd))) hsm (fun j o ho e he hb => ?_) k.pre ops.size [] (List.range ops.size) [] _ f f cx.H hs2 ⟨by simp, fun i hi => ?_, fun i hi => by simpa using hi, fun i o ho hl => ?_, fun i hi => by simp [hi], fun i o ho hn => ?_, List.nodup_nil, List.nodup_range, fun j hj => (by cases hj), fun t _ => rfl⟩ (by simp) hv
  · have := hs5 j (List.mem_range.2 (Array.getElem?_eq_some_iff.1 ho).1)
    rw [ho] at this
    simp only [List.all_eq_true] at this
    have := this e (by simpa using he)
    simpa [hb] using this
  · simp [Array.getD_eq_getD_getElem?, Array.getElem?_replicate, hi]
  · exfalso
    have hlt : i < ops.size := (Array.getElem?_eq_some_iff.1 ho).1
    simp [Array.getD_eq_getD_getElem?, Array.getElem?_replicate, hlt] at hl
  · exfalso
    exact hn (by simpa using (Array.getElem?_eq_some_iff.1 ho).1)
@[simp ↓] theorem QW_forkN (l : List Oper) (Q : AQ) (ds0 : List ADef) (k : Fork) (f : Fr) (H : List Blk) (ds : List ADef) (w : Wit (forkQ P hn l.toArray Q ds0 k, AX.normal, f, H, ds)) : QW (forkQ P hn l.toArray Q ds0 k) .normal f H ds w = (vcXW P hn ((k.i, k.li) :: k.pi) l.toArray Q f H ds0 (wit _) ∧ vcXW P hn ((k.j, k.lj) :: k.pj) l.toArray Q f H ds0 (wit _)) := (rfl)
end
end Go.Mu
namespace Go.Proofs
open Go.Mu
def varsT (l : List Vr) : List (ByteArray × Vr) := l.foldl (fun t v => aset v.name v t) []
theorem varsT_take {l : List Vr} {i : Nat} (h : i < l.length) : varsT (l.take (i + 1)) = aset l[i].name l[i] (varsT (l.take i)) := by rw [take_succ' h, varsT, List.foldl_append]; rfl
def askE (p : Pg) (i : Nat) (f : Fc) : Int := smsChk p i f (varsT (f.params ++ f.vars)) (onesT (p.regions.map Rg.name) []) (smsWords 1 f.body) 1 [] f.body
def asksE (p : Pg) : Nat → List Fc → Int
  | _, [] => 0
  | i, f :: l => thenE (askE p i f) (asksE p (i + 1) l)
def mayE (p : Pg) : Int := thenE (manyE p) (thenE (namesE p) (thenE (boundsE [] p.regions) (thenE (allE kindsE p.funcs) (asksE p 0 p.funcs))))
theorem sizes_in {p : Pg} (h : manyE p = 0) : ∀ r ∈ p.regions, SizeIn r := by
  have t : ∀ a b : Int, thenE a b = 0 → a = 0 ∧ b = 0 := fun a b h => by
    unfold thenE at h
    split at h
    · rename_i ha; exact ⟨ha, h⟩
    · rename_i ha; exact absurd h ha
  unfold manyE at h
  have h2 := (t _ _ (t _ _ h).2).1
  have all : ∀ l : List Rg, allE (fun r => sizeE r.size) l = 0 → ∀ r ∈ l, sizeE r.size = 0 := by
    intro l
    induction l with
    | nil => intro _ r hr; cases hr
    | cons r l ih =>
      intro h q hq
      rw [allE] at h
      rcases List.mem_cons.1 hq with rfl | hq
      · exact (t _ _ h).1
      · exact ih (t _ _ h).2 q hq
  intro r hr
  have h3 := all _ h2 r hr
  unfold sizeE mustE at h3
  split at h3
  · rename_i h4; simpa [SizeIn] using h4
  · cases h3
section
variable {p : Pg} {kv ka a k c : Nat} {all : List ByteArray} {tv : List (ByteArray × Vr)} {ta : List (ByteArray × Bool)} {F : Fc} {M W : List Blk}
theorem stmts_top (hp : p.Ok) (hall : all.length ≤ 2^40) (hk : k < p.funcs.length) (hF : F = p.funcs[k]) (l : List Sm) (hl : smsCount l ≤ 2^36) (H : List Blk) (hA : AskIn H a p k kv ka nilS all tv ta) :
    ACalls Tryz.prog 110 [.bp a 0, Sm.sl l, I 1] H (fun e H' => (smsChk p k F tv ta all 1 [] l = 0 → e = .ret (.tup [])) ∧ (smsChk p k F tv ta all 1 [] l ≠ 0 → e = .pan (refS (smsChk p k F tv ta all 1 [] l))) ∧ ∃ X Y, H' = H.set a X ++ [Y]) := by
  refine acalls_spare 1 ?_
  have hal := lt_of_get hA.box
  refine (stmts_ok (r := H.length) hp hall hk hF (smsCount l + 1) l 1 [] 0 (by omega) hl (by omega) (Nat.le_refl _) (by simp; omega) (H ++ [.pend]) (hA.app _) (by simp [keepB, ownB])).mono ?_
  have hs : ∀ X Y, set2 (H ++ [.pend]) a X H.length Y = H.set a X ++ [Y] := fun X Y => by
    rw [set2, List.set_append, if_pos hal, List.set_append, if_neg (by simp)]; simp
  rintro e H' ⟨h1, h2⟩
  by_cases hc : smsChk p k F tv ta all 1 [] l = 0
  · obtain ⟨rfl, es', rfl, _⟩ := h1 hc
    exact ⟨fun _ => rfl, fun h => absurd hc h, _, _, hs _ _⟩
  · obtain ⟨rfl, es', n', rfl⟩ := h2 hc
    exact ⟨fun h => absurd h hc, fun _ => rfl, _, _, hs _ _⟩
structure AskM (M W : List Blk) (p : Pg) (k : Nat) (F : Fc) (c a kv ka : Nat) (all : List ByteArray) (tv : List (ByteArray × Vr)) (ta : List (ByteArray × Bool)) : Prop where
  ext : ∃ L, W = M ++ L
  ask : AskIn W a p k kv ka nilS all tv ta
  ne : kv ≠ ka
  la : M.length ≤ a
  lv : M.length ≤ kv
  lk : M.length ≤ ka
  fb : W[c]? = some (.box 56 F.cells)
theorem set_ext {M W : List Blk} (h : ∃ L, W = M ++ L) {n : Nat} (hn : M.length ≤ n) (X : Blk) : ∃ L, W.set n X = M ++ L := by
  obtain ⟨L, rfl⟩ := h
  exact ⟨_, by rw [List.set_append, if_neg (by omega)]⟩
theorem AskM.app (h : AskM M W p k F c a kv ka all tv ta) (L : List Blk) : AskM M (W ++ L) p k F c a kv ka all tv ta := by
  obtain ⟨⟨L1, e⟩, h2, h3, h4, h5, h6, h7⟩ := h
  exact ⟨⟨L1 ++ L, by rw [e, List.append_assoc]⟩, h2.app L, h3, h4, h5, h6, get_app_old h7 L⟩
theorem AskM.setV (h : AskM M W p k F c a kv ka all tv ta) (tv' : List (ByteArray × Vr)) : AskM M (W.set kv (.map (strM Vr.av tv'))) p k F c a kv ka all tv' ta := by
  obtain ⟨h1, ⟨b1, b2, b3⟩, h3, h4, h5, h6, h7⟩ := h
  have l1 := lt_of_get b2
  have n1 : a ≠ kv := fun e => by subst e; rw [b1] at b2; simp [askBox] at b2
  have n2 : c ≠ kv := fun e => by subst e; rw [h7] at b2; simp at b2
  exact ⟨set_ext h1 h5 _, ⟨by rw [List.getElem?_set_ne (Ne.symm n1)]; exact b1, by simp [l1], by rw [List.getElem?_set_ne h3]; exact b3⟩, h3, h4, h5, h6, by rw [List.getElem?_set_ne (Ne.symm n2)]; exact h7⟩
theorem AskM.setK (h : AskM M W p k F c a kv ka all tv ta) (ta' : List (ByteArray × Bool)) : AskM M (W.set ka (.map (strM okA ta'))) p k F c a kv ka all tv ta' := by
  obtain ⟨h1, ⟨b1, b2, b3⟩, h3, h4, h5, h6, h7⟩ := h
  have l1 := lt_of_get b3
  have n1 : a ≠ ka := fun e => by subst e; rw [b1] at b3; simp [askBox] at b3
  have n2 : c ≠ ka := fun e => by subst e; rw [h7] at b3; simp at b3
  exact ⟨set_ext h1 h6 _, ⟨by rw [List.getElem?_set_ne (Ne.symm n1)]; exact b1, by rw [List.getElem?_set_ne (Ne.symm h3)]; exact b2, by simp [l1]⟩, h3, h4, h5, h6, by rw [List.getElem?_set_ne (Ne.symm n2)]; exact h7⟩
theorem RowAt.app {H : List Blk} {x : AV} {t : TypeId} {sz : Nat} {es : List (List AV)} (h : RowAt H x t sz es) (L : List Blk) : RowAt (H ++ L) x t sz es := by
  rcases h with h | ⟨k, h1, h2⟩
  · exact .inl h
  · exact .inr ⟨k, h1, get_app_old h2 L⟩
theorem RowAt.set {H : List Blk} {x : AV} {t : TypeId} {sz : Nat} {es : List (List AV)} (h : RowAt H x t sz es) {n : Nat} {m : List (Value × AV)} (hn : H[n]? = some (.map m)) (X : Blk) : RowAt (H.set n X) x t sz es := by
  rcases h with h | ⟨k, h1, h2⟩
  · exact .inl h
  · refine .inr ⟨k, h1, ?_⟩
    rw [List.getElem?_set_ne (fun e => by subst e; rw [h2] at hn; simp at hn)]; exact h2
end
end Go.Proofs
namespace Go.Proofs
open Go.Mu
structure Pg.Ok2 (p : Pg) : Prop where
  ok : p.Ok
  nok : p.NOk
  body36 : ∀ f ∈ p.funcs, smsCount f.body ≤ 2^36
theorem asksE_drop {p : Pg} {i : Nat} (h : i < p.funcs.length) : asksE p i (p.funcs.drop i) = thenE (askE p i p.funcs[i]) (asksE p (i + 1) (p.funcs.drop (i + 1))) := by rw [drop_cons h, asksE]
theorem asksE_end {p : Pg} {i : Nat} (h : ¬ i < p.funcs.length) : asksE p i (p.funcs.drop i) = 0 := by rw [drop_end h]; rfl
theorem may1_ok (p : Pg) (hp : p.Ok2) (b : Nat) (H : List Blk) (hb : H[b]? = some (.box 25 p.cells)) : ACalls Tryz.prog 104 [.bp b 0] H (ChkR (mayE p) H) := by
  refine acalls_tidy (acalls_of_awp Tryz.func104 rfl (by kernel_rfl) ?_)
  obtain ⟨E, hE⟩ : ∃ E, E = mayE p := ⟨_, rfl⟩
  rw [← hE]
  have hbL := fun L => get_app_old hb L
  have endP : ∀ e L, e = E → e ≠ 0 → Tidy H (ChkR E H) (.pan (refS e)) (H ++ L) := fun e L he h0 => tidy_chkP he h0
  have end0 : ∀ L, E = 0 → Tidy H (ChkR E H) (.ret (.tup [])) (H ++ L) := fun L he => tidy_chk0 he
  have endP0 : ∀ e, e = E → e ≠ 0 → Tidy H (ChkR E H) (.pan (refS e)) H := fun e he h0 => tidy_chkP' he h0
  unfold mayE at hE
  replace hE := hE.symm
  have c1 := many_ok p hp.ok H
  have c2 := names_ok p hp.ok hp.nok H
  have hpf := hp.ok.funcs
  have hpr := hp.ok.regions
  simp only [Pg.cells] at hb hbL c1 c2
  refine awp_cut (fun _ => false) (fun _ => none) (fun f H' => H = H' ∧ f 0 = .bp b 0 ∧ manyE p = 0) (by kernel_rfl) ?_ ?_
  · simp -dsimp [hb]
    refine chkW c1 (fun hz => ?_) (fun hz => ?_)
    · simp -dsimp
      exact hz
    · simp -dsimp
      rw [thenE_ne hz] at hE
      exact endP0 _ hE hz
  rintro g _ ⟨rfl, g0, h1⟩
  rw [h1, thenE_zero] at hE
  refine awp_cut (fun _ => false) (fun _ => none) (fun f H' => H = H' ∧ f 0 = .bp b 0 ∧ namesE p = 0) (by kernel_rfl) ?_ ?_
  · simp -dsimp [hb, g0]
    refine chkW c2 (fun hz => ?_) (fun hz => ?_)
    · simp -dsimp [g0]
      exact hz
    · simp -dsimp
      rw [thenE_ne hz] at hE
      exact endP0 _ hE hz
  clear g g0
  rintro g _ ⟨rfl, g0, h2⟩
  rw [h2, thenE_zero] at hE
  have c3 := bounds_ok p hp.ok.regions (sizes_in h1) H
  simp only [Pg.cells] at c3
  refine awp_cut (fun _ => false) (fun _ => none) (fun f H' => H = H' ∧ f 0 = .bp b 0 ∧ boundsE [] p.regions = 0) (by kernel_rfl) ?_ ?_
  · simp -dsimp [hb, g0]
    refine chkW c3 (fun hz => ?_) (fun hz => ?_)
    · simp -dsimp [g0]
      exact hz
    · simp -dsimp
      rw [thenE_ne hz] at hE
      exact endP0 _ hE hz
  clear g g0
  rintro g _ ⟨rfl, g0, h3⟩
  rw [h3, thenE_zero] at hE
  clear c1 c2 c3 h1 h2 h3
  -- kinds
  refine awp_cut (fun _ => false) (fun _ => none) (fun f H' => (∃ L, H' = H ++ L) ∧ f 0 = .bp b 0 ∧ allE kindsE p.funcs = 0) (by kernel_rfl) ?_ ?_
  · simp -dsimp [hb, g0]
    refine loop_rule (hn := fun _ => false) (od := fun _ => none) (fun (i : Nat) g H' => (∃ L, H' = H ++ L) ∧ g 0 = .bp b 0 ∧ g 17 = Fc.sl p.funcs ∧ g 18 = I p.funcs.length ∧ g 19 = I i ∧ i ≤ p.funcs.length ∧ allE kindsE (p.funcs.drop i) = allE kindsE p.funcs) (fun i => p.funcs.length - i) (by kernel_rfl) 0 (by simp [g0]) ?_
    clear g g0
    rintro i g _ ⟨⟨L, rfl⟩, g0, g17, g18, g19, hi, hinv⟩
    simp -dsimp [g0, g17, g18, g19]
    refine condVW_introD (fun hlt => ?_) (fun hlt => ?_)
    · rw [allE_drop _ hlt] at hinv
      have ck := kinds_ok p.funcs[i] (by have := hp.ok.params _ (List.getElem_mem hlt); omega) (by have := hp.ok.vars _ (List.getElem_mem hlt); omega) (H ++ (L ++ [.box 56 p.funcs[i].cells]))
      simp only [Fc.cells] at ck
      simp -dsimp [g0, g17, g18, g19, List.getElem?_eq_getElem, hlt]
      refine chkW ck (fun hz => ?_) (fun hz => ?_)
      · simp -dsimp [g0, g17, g18, g19]
        rw [hz, thenE_zero] at hinv
        exact ⟨i + 1, by omega, wrapS (by omega), by omega, hinv⟩
      · simp -dsimp
        rw [thenE_ne hz] at hinv
        exact endP _ _ (by rw [← hE, ← hinv, thenE_ne hz]) hz
    · simp -dsimp [g0]
      rw [allE_end _ hlt] at hinv
      exact hinv.symm
  clear g g0
  rintro g _ ⟨⟨L0, rfl⟩, g0, h4⟩
  rw [h4, thenE_zero] at hE
  clear h4
  obtain ⟨rl, hrl⟩ : ∃ rl, rl = p.regions.map Rg.name := ⟨_, rfl⟩
  -- statements
  refine awp_cut (fun _ => false) (fun _ => none) (fun f H' => H' = H ++ L0 ∧ f 0 = .bp b 0 ∧ f 27 = Fc.sl p.funcs ∧ f 28 = I p.funcs.length ∧ f 29 = I 0) (by kernel_rfl) ?_ ?_
  · simp -dsimp [hbL, g0]
  clear g g0
  rintro g _ ⟨rfl, g0, g27, g28, g29⟩
  refine awp_block ?_
  refine awp_loopI (fun (i : Nat) g H' => (∃ L, H' = H ++ L) ∧ g 0 = .bp b 0 ∧ g 27 = Fc.sl p.funcs ∧ g 28 = I p.funcs.length ∧ g 29 = I i ∧ i ≤ p.funcs.length ∧ asksE p i (p.funcs.drop i) = E) (fun i => p.funcs.length - i) 0 ⟨⟨_, rfl⟩, g0, g27, g28, g29, by omega, hE⟩ ?_
  clear g g0 g27 g28 g29
  rintro i g _ ⟨⟨L1, rfl⟩, g0, g27, g28, g29, hi, hinv⟩
  obtain ⟨M, hM⟩ : ∃ M, M = H ++ L1 := ⟨_, rfl⟩
  have hMb : ∀ W, (∃ L, W = M ++ L) → ∀ L, (W ++ L)[b]? = some (.box 25 [Rg.sl p.regions, Fc.sl p.funcs]) := fun W hW L => by
    obtain ⟨L2, rfl⟩ := hW; rw [hM, List.append_assoc, List.append_assoc]; exact hbL _
  have hMe : ∀ W, (∃ L, W = M ++ L) → ∀ L, ∃ L', W ++ L = H ++ L' := fun W hW L => by
    obtain ⟨L2, rfl⟩ := hW; exact ⟨L1 ++ (L2 ++ L), by rw [hM]; simp⟩
  rw [← hM]
  clear hM hb hbL
  refine awp_cut (fun _ => false) (fun _ => none) (fun f H' => M = H' ∧ f 0 = .bp b 0 ∧ f 27 = Fc.sl p.funcs ∧ f 28 = I p.funcs.length ∧ f 29 = I i ∧ f 30 = Bo (decide ((i : Int) < p.funcs.length))) (by kernel_rfl) ?_ ?_
  · simp -dsimp [g0, g27, g28, g29]
  clear g g0 g27 g28 g29
  rintro g _ ⟨rfl, g0, g27, g28, g29, g30⟩
  refine awp_cut (fun _ => false) (fun _ => none) (fun f H' => M = H' ∧ f 0 = .bp b 0 ∧ f 27 = Fc.sl p.funcs ∧ f 28 = I p.funcs.length ∧ f 29 = I i ∧ i < p.funcs.length) (by kernel_rfl) ?_ ?_
  · simp -dsimp [g30]
    refine condVW_introD (fun hlt => ?_) (fun hlt => ?_)
    · simp -dsimp [g0, g27, g28, g29]
      omega
    · simp -dsimp
      rw [asksE_end (by omega)] at hinv
      obtain ⟨L', hL'⟩ := hMe M ⟨[], by simp⟩ []
      rw [List.append_nil] at hL'
      rw [hL']
      exact end0 _ hinv.symm
  clear g g0 g27 g28 g29 g30
  rintro g _ ⟨rfl, g0, g27, g28, g29, hlt⟩
  rw [asksE_drop hlt] at hinv
  have hpp := hp.ok.params _ (List.getElem_mem hlt)
  have hpv := hp.ok.vars _ (List.getElem_mem hlt)
  have hpb := hp.body36 _ (List.getElem_mem hlt)
  obtain ⟨F, hF⟩ : ∃ F, F = p.funcs[i] := ⟨_, rfl⟩
  rw [← hF] at hinv hpp hpv hpb
  unfold askE at hinv
  rw [← hrl] at hinv
  obtain ⟨vs, hvs⟩ : ∃ vs, vs = F.params ++ F.vars := ⟨_, rfl⟩
  have hvl : vs.length ≤ 2^40 := by rw [hvs]; simp; omega
  rw [← hvs] at hinv
  obtain ⟨all, hall⟩ : ∃ all, all = smsWords 1 F.body := ⟨_, rfl⟩
  have hal : all.length ≤ 2^40 := by rw [hall]; have := smsWords_len _ F.body (Nat.le_refl _) 1; omega
  rw [← hall] at hinv
  refine awp_cutA (fun f H' => (∃ L, H' = M ++ L) ∧ f 0 = .bp b 0 ∧ f 27 = Fc.sl p.funcs ∧ f 28 = I p.funcs.length ∧ f 29 = I i ∧ smsChk p i F (varsT vs) (onesT rl []) all 1 [] F.body = 0) ?_ ?_
  rotate_left
  · clear g g0 g27 g28 g29
    rintro g W ⟨hW, g0, g27, g28, g29, h5⟩
    rw [h5, thenE_zero] at hinv
    obtain ⟨L', hL'⟩ := hMe W hW []
    rw [List.append_nil] at hL'
    subst hL'
    refine awp_all (fun _ => false) (fun _ => none) (by kernel_rfl) ?_
    simp -dsimp [g0, g27, g28, g29]
    exact ⟨i + 1, by omega, wrapS (by omega), by omega, hinv⟩
  refine awp_block ?_
  refine awp_cut (fun _ => false) (fun _ => none) (fun f H' => H' = M ++ [.box 56 F.cells] ∧ f 0 = .bp b 0 ∧ f 27 = Fc.sl p.funcs ∧ f 28 = I p.funcs.length ∧ f 29 = I i ∧ f 3 = I i ∧ f 4 = .bp M.length 0) (by kernel_rfl) ?_ ?_
  · simp -dsimp [g0, g27, g28, g29, List.getElem?_eq_getElem, hlt, hF]
  clear g g0 g27 g28 g29
  rintro g _ ⟨rfl, g0, g27, g28, g29, g3, g4⟩
  -- what is asked with
  refine awp_cutA (fun f W => (∃ a kv ka, AskM M W p i F M.length a kv ka all [] [] ∧ f 5 = .bp a 0) ∧ f 0 = .bp b 0 ∧ f 27 = Fc.sl p.funcs ∧ f 28 = I p.funcs.length ∧ f 29 = I i ∧ f 4 = .bp M.length 0) ?_ ?_
  · have hbx : ∀ L, (M ++ L)[b]? = some (.box 25 [Rg.sl p.regions, Fc.sl p.funcs]) := fun L => hMb M ⟨[], by simp⟩ L
    have cc := fun H => counts_ok (smsCount F.body) F.body 1 (Nat.le_refl _) hpb (by omega) H
    rw [← hall] at cc
    refine awp_region_fork (fun _ => false) ⟨[0, 1, 4, 5, 6], 2, 3, [0, 4, 5, 6], [0, 4, 5, 6], [(3, [0, 4, 5, 6]), (7, []), (8, []), (9, [])], [(2, [0, 4, 5, 6]), (7, []), (8, []), (9, [])]⟩ (by kernel_rfl) ?_
    simp -dsimp [g0, g27, g28, g29, g3, g4, hbx]
    repeat' (with_reducible first | refine And.intro ?_ ?_ | refine callDW_intro (cc _) ?_ | (simp -dsimp [g0, g27, g28, g29, g3, g4, hbx]; done) | simp -dsimp [g0, g27, g28, g29, g3, g4, hbx])
    · exact ⟨M.length + 1, M.length + 2, ⟨_, rfl⟩, ⟨by simp [askBox], by simp [strM], by simp [strM]⟩, by omega, by omega, by omega, by omega, by simp⟩
    · exact ⟨M.length + 2, M.length + 1, ⟨_, rfl⟩, ⟨by simp [askBox], by simp [strM], by simp [strM]⟩, by omega, by omega, by omega, by omega, by simp⟩
  clear g g0 g27 g28 g29 g3 g4
  rintro g W ⟨⟨a, kv, ka, hA, g5⟩, g0, g27, g28, g29, g4⟩
  -- regions
  refine awp_cut (fun _ => false) (fun _ => none) (fun f W => AskM M W p i F M.length a kv ka all [] (onesT rl []) ∧ f 5 = .bp a 0 ∧ f 0 = .bp b 0 ∧ f 27 = Fc.sl p.funcs ∧ f 28 = I p.funcs.length ∧ f 29 = I i ∧ f 4 = .bp M.length 0) (by kernel_rfl) ?_ ?_
  · have hb0 := hMb W hA.ext []
    rw [List.append_nil] at hb0
    simp -dsimp [g0, g27, g28, g29, g4, g5, hb0]
    refine loop_rule (hn := fun _ => false) (od := fun _ => none) (fun (j : Nat) f W => AskM M W p i F M.length a kv ka all [] (onesT (rl.take j) []) ∧ f 5 = .bp a 0 ∧ f 0 = .bp b 0 ∧ f 27 = Fc.sl p.funcs ∧ f 28 = I p.funcs.length ∧ f 29 = I i ∧ f 4 = .bp M.length 0 ∧
      f 44 = Rg.sl p.regions ∧ f 45 = I p.regions.length ∧ f 46 = I j ∧ j ≤ p.regions.length) (fun j => p.regions.length - j) (by kernel_rfl) 0 (by simp [g0, g27, g28, g29, g4, g5, onesT]; exact hA) ?_
    clear g g0 g27 g28 g29 g4 g5 hb0 hA
    rintro j g W ⟨hA, g5, g0, g27, g28, g29, g4, g44, g45, g46, hj⟩
    simp -dsimp [g0, g27, g28, g29, g4, g5, g44, g45, g46]
    refine condVW_introD (fun hjt => ?_) (fun hjt => ?_)
    · have hltn : j < rl.length := by rw [hrl]; simpa using hjt
      have hT := onesT_take hltn []
      have hnm : rl[j] = p.regions[j].name := by subst hrl; simp
      rw [hnm] at hT
      obtain ⟨T, hTT⟩ : ∃ T, T = onesT (rl.take j) [] := ⟨_, rfl⟩
      rw [← hTT] at hT hA
      have hst := mset_str okA p.regions[j].name true T
      have hbx := fun L => (hA.app L).ask.box
      have hme : ∀ L, mapEs (W ++ L) (.hm ka) = some (strM okA T) := fun L => by simp only [mapEs]; rw [(hA.app L).ask.arr]
      simp only [askBox] at hbx
      simp -dsimp [g0, g27, g28, g29, g4, g5, g44, g45, g46, List.getElem?_eq_getElem, hjt, hbx, hme, hst]
      exact ⟨j + 1, by omega, by rw [hT]; exact (hA.app _).setK _, wrapS (by omega), by omega⟩
    · have e : rl.take j = rl := List.take_of_length_le (by subst hrl; simp; omega)
      rw [e] at hA
      simp -dsimp [g0, g27, g28, g29, g4, g5]
      exact hA
  clear g g0 g27 g28 g29 g4 g5 hA
  rintro g W ⟨hA, g5, g0, g27, g28, g29, g4⟩
  -- variables
  refine awp_cutA (fun f W => AskM M W p i F M.length a kv ka all (varsT vs) (onesT rl []) ∧ f 5 = .bp a 0 ∧ f 0 = .bp b 0 ∧ f 27 = Fc.sl p.funcs ∧ f 28 = I p.funcs.length ∧ f 29 = I i ∧ f 4 = .bp M.length 0) ?_ ?_
  · refine awp_cut (fun d => d == 60 || d == 63) (fun id => if id = 17 then some [(0, []), (1, []), (3, []), (4, []), (7, []), (2, [3, 4, 7]), (5, [7]), (6, [])] else none) (fun f W => AskM M W p i F M.length a kv ka all [] (onesT rl []) ∧ RowAt W (f 63) 120 4 (vs.map Vr.cells) ∧ f 5 = .bp a 0 ∧ f 0 = .bp b 0 ∧ f 27 = Fc.sl p.funcs ∧ f 28 = I p.funcs.length ∧ f 29 = I i ∧ f 4 = .bp M.length 0 ∧ f 64 = I vs.length ∧ f 65 = I 0) (by kernel_rfl) ?_ ?_
    · have hfb := fun L => (hA.app L).fb
      have hfb0 := hA.fb
      simp only [Fc.cells] at hfb hfb0
      simp -dsimp [g0, g27, g28, g29, g4, g5, hfb, hfb0]
      refine acallsW_of (vclone_ok F.params hpp _) ?_
      rintro e H' (⟨hl, rfl, rfl⟩ | ⟨rfl, rfl⟩)
      · simp -dsimp [g0, g27, g28, g29, g4, g5, hfb, hfb0]
        refine appendVW_nil (by simp; omega) (by simp; omega) (fun hy => ?_) (fun hy => ?_)
        · have hv : F.vars = [] := by simpa using hy
          simp -dsimp [g0, g27, g28, g29, g4, g5, hl, hv, hvs]
          exact ⟨hA, .inl ⟨rfl, rfl⟩⟩
        · simp -dsimp [g0, g27, g28, g29, g4, g5, hl, hvs]
          exact ⟨hA.app _, .inr ⟨H'.length, by simp, by simp⟩⟩
      · simp -dsimp [g0, g27, g28, g29, g4, g5, hfb, hfb0]
        refine appendVW_hs (es := F.params.map Vr.cells) (by simp) (by simp) (by simp) (by simp; omega) (by simp; omega) ?_
        simp -dsimp [g0, g27, g28, g29, g4, g5, hvs]
        exact ⟨hA.app _, .inr ⟨W.length, by simp, by simp⟩⟩
    clear g g0 g27 g28 g29 g4 g5 hA
    rintro g W ⟨hA, hrow, g5, g0, g27, g28, g29, g4, g64, g65⟩
    refine awp_all (fun _ => false) (fun _ => none) (by kernel_rfl) ?_
    simp -dsimp
    refine loop_rule (hn := fun _ => false) (od := fun _ => none) (fun (j : Nat) f W => AskM M W p i F M.length a kv ka all (varsT (vs.take j)) (onesT rl []) ∧ RowAt W (f 63) 120 4 (vs.map Vr.cells) ∧ f 5 = .bp a 0 ∧ f 0 = .bp b 0 ∧ f 27 = Fc.sl p.funcs ∧ f 28 = I p.funcs.length ∧ f 29 = I i ∧ f 4 = .bp M.length 0 ∧ f 64 = I vs.length ∧ f 65 = I j ∧ j ≤ vs.length) (fun j => vs.length - j) (by kernel_rfl) 0 (by simp [g0, g27, g28, g29, g4, g5, g64, g65, hrow, varsT]; exact hA) ?_
    clear g g0 g27 g28 g29 g4 g5 g64 g65 hA hrow
    rintro j g W ⟨hA, hrow, g5, g0, g27, g28, g29, g4, g64, g65, hj⟩
    simp -dsimp [g64, g65]
    refine condVW_introD (fun hjt => ?_) (fun hjt => ?_)
    · rcases hrow with ⟨g63, hes⟩ | ⟨n, g63, hn⟩
      · have : vs = [] := by simpa using hes
        rw [this] at hjt
        simp at hjt
      · have hT := varsT_take hjt
        obtain ⟨T, hTT⟩ : ∃ T, T = varsT (vs.take j) := ⟨_, rfl⟩
        rw [← hTT] at hT hA
        have hst := mset_str Vr.av vs[j].name vs[j] T
        simp only [Vr.av, Vr.cells] at hst
        have hbx := fun L => (hA.app L).ask.box
        have hme : ∀ L, mapEs (W ++ L) (.hm kv) = some (strM Vr.av T) := fun L => by simp only [mapEs]; rw [(hA.app L).ask.vars]
        have hnL := fun L => get_app_old hn L
        simp only [askBox] at hbx
        simp -dsimp [g0, g27, g28, g29, g4, g5, g63, g64, g65, List.getElem?_eq_getElem, hjt, hbx, hme, hst, hn, hnL]
        exact ⟨j + 1, by omega, by rw [hT]; exact (hA.app _).setV _, (RowAt.app (.inr ⟨n, by simp, hn⟩) _).set (hA.app _).ask.vars _, wrapS (by omega), by omega⟩
    · have e : vs.take j = vs := List.take_of_length_le (by omega)
      rw [e] at hA
      simp -dsimp [g0, g27, g28, g29, g4, g5]
      exact hA
  clear g g0 g27 g28 g29 g4 g5 hA
  rintro g W ⟨hA, g5, g0, g27, g28, g29, g4⟩
  refine awp_all (fun _ => false) (fun _ => none) (by kernel_rfl) ?_
  have hfb := hA.fb
  simp only [Fc.cells] at hfb
  simp -dsimp [g0, g27, g28, g29, g4, g5, hfb]
  refine acallsW_of (stmts_top hp.ok hal hlt hF F.body hpb W hA.ask) ?_
  rintro e H' ⟨h1, h2, X, Y, rfl⟩
  have hex : ∃ L, W.set a X ++ [Y] = M ++ L := by
    obtain ⟨L, hL⟩ := set_ext hA.ext hA.la X
    exact ⟨L ++ [Y], by rw [hL, List.append_assoc]⟩
  by_cases hc : smsChk p i F (varsT vs) (onesT rl []) all 1 [] F.body = 0
  · obtain rfl := h1 hc
    simp -dsimp [g0, g27, g28, g29, g4, g5]
    exact ⟨hex, hc⟩
  · obtain rfl := h2 hc
    simp -dsimp
    rw [thenE_ne hc] at hinv
    obtain ⟨L', hL'⟩ := hMe _ hex []
    rw [List.append_nil] at hL'
    rw [hL']
    exact endP _ _ hinv hc
end Go.Proofs
namespace Go.Proofs
open Go.Mu
@[simp] theorem nil20 : binE Tryz.prog .eql 20 (.v .nilIface) (.v .nilIface) = some (.v (.bool true)) := by kernel_rfl
@[simp] theorem ifc20 (t : Nat) (x : AV) : binE Tryz.prog .eql 20 (.ifc t x) (.v .nilIface) = some (.v (.bool false)) := by kernel_rfl
theorem krec_none (t : Nat) (H : List Blk) : RecSem Tryz.prog ⟨172, [.bp t 0], none⟩ (.v .nilIface) H (fun H' => H' = H) := by
  refine recSem_of_vc (hn := fun _ => false) (od := fun _ => none) Tryz.func172 rfl rfl (by kernel_rfl) ?_
  show vcC _ _ _ _ _ (recQ _) _ _ _
  simp -dsimp
theorem krec_some (t : Nat) (H : List Blk) (n e : Int) (h : H[t]? = some (.box 35 [I n])) : RecSem Tryz.prog ⟨172, [.bp t 0], none⟩ (refS e) H (fun H' => ∃ L, H' = H.set t (.box 35 [I e]) ++ L) := by
  refine recSem_of_vc (hn := fun _ => false) (od := fun _ => none) Tryz.func172 rfl rfl (by kernel_rfl) ?_
  show vcC _ _ _ _ _ (recQ _) _ _ _
  have hl := lt_of_get h
  have hL := fun L => get_app_old h L
  have hs : ∀ L X, (H ++ L).set t X = H.set t X ++ L := fun L X => by rw [List.set_append, if_pos hl]
  simp -dsimp [assertV, refS, h, hL, hs]
theorem kept_ok (g : FuncId) (cap : List AV) (E : Int) (H : List Blk) (hok : okFn Tryz.prog g = true) (hg : ∀ L, ACalls Tryz.prog g cap (H ++ L) (ChkR E (H ++ L))) : ACalls Tryz.prog 103 [.fn (.func g) [] cap] H (fun e H' => e = .ret (I E) ∧ H' = H) := by
  refine acalls_tidy (acalls_of_vcD (hn := fun _ => false) (od := fun _ => none) Tryz.func103 rfl (by kernel_rfl) ?_)
  simp -dsimp [hok]
  refine chkW (hg _) (fun hz => ?_) (fun hz => ?_)
  · subst hz
    simp -dsimp
    refine recW_of (krec_none _ _) ?_
    rintro H' rfl
    simp -dsimp
    exact tidy_same rfl ⟨rfl, rfl⟩
  · simp -dsimp
    refine recW_of (krec_some _ _ 0 _ (by simp)) ?_
    rintro H' ⟨L, rfl⟩
    simp -dsimp
    exact tidy_same rfl ⟨rfl, rfl⟩
theorem may_ok (p : Pg) (hp : p.Ok2) (H : List Blk) : ACalls Tryz.prog 65 [.agg p.cells] H (fun e H' => e = .ret (I (mayE p)) ∧ H' = H) := by
  refine acalls_tidy (acalls_of_vc (hn := fun _ => false) (od := fun _ => none) Tryz.func65 rfl (by kernel_rfl) ?_)
  simp -dsimp
  refine acallsW_det (kept_ok 104 [.bp H.length 0] (mayE p) (H ++ [.box 25 p.cells]) (by simp) (fun L => may1_ok p hp _ _ (by simp))) ?_
  simp -dsimp
  exact tidy_same rfl ⟨rfl, rfl⟩
end Go.Proofs
