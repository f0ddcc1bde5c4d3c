/- A region whose order of evaluation is drawn, in which two operations that change something may come in either order. -/
import Derived.Test.YtamblilpfacolaaFwQtoFwT
import Derived.Test.YtamblilpfacolaaG1
set_option linter.unusedVariables false
set_option linter.unusedSimpArgs false
set_option maxHeartbeats 4000000
set_option maxRecDepth 100000
namespace Go.Mu
section
variable {P : Program} {n : Nat} {pu : Nat → Bool} {ops : Array Oper} {Q : AQ}
theorem sinv_ready {hf : Oper → Bool} (hsm : ∀ (i : Nat) (o : Oper), ops[i]? = some o → smallO n ops o = true)
    (hlt : ∀ (j : Nat) (o : Oper), ops[j]? = some o → ∀ e ∈ o.after, Region.binds .any e = true → e.on < j) {done rem L : List Nat} {listed : Array Bool} {f fa : Fr} {H : List Blk} (hi : SInv P pu hf ops done rem L listed f fa H) (hn : Region.ready .any ops listed = []) : rem = [] ∧ L = [] := by
  have key : ∀ i, i < ops.size → listed.getD i false = true := by
    intro i
    induction i using Nat.strongRecOn with
    | ind i ih =>
      intro hlt'
      cases hl : listed.getD i false with
      | true => rfl
      | false =>
        exfalso
        have ho : ops[i]? = some (ops[i]'hlt') := Array.getElem?_eq_getElem hlt'
        have : i ∈ Region.ready .any ops listed := mem_ready.2 ⟨by rw [getD_tf (by rw [hi.size]; exact hlt')]; exact hl, _, ho, fun e he hb => ih e.on (hlt i _ ho e he hb) (Nat.lt_trans (hlt i _ ho e he hb) hlt')⟩
        rw [hn] at this; cases this
  constructor
  · refine List.eq_nil_iff_forall_not_mem.2 fun i hir => ?_
    have hl := hi.remlt i hir
    have := (hi.un i hl).2 (.inl hir)
    rw [key i hl] at this; cases this
  · refine List.eq_nil_iff_forall_not_mem.2 fun i hiL => ?_
    obtain ⟨_, o, ho, _⟩ := hi.good i hiL
    have hl := (Array.getElem?_eq_some_iff.1 ho).1
    have := (hi.un i hl).2 (.inr hiL)
    rw [key i hl] at this; cases this
theorem sinv_late {hf : Oper → Bool} (hsm : ∀ (i : Nat) (o : Oper), ops[i]? = some o → smallO n ops o = true)
    (hlt : ∀ (j : Nat) (o : Oper), ops[j]? = some o → ∀ e ∈ o.after, Region.binds .any e = true → e.on < j) {done rem L : List Nat} {listed : Array Bool} {f fa : Fr} {H : List Blk} {i : Nat} (hi : SInv P pu hf ops done rem L listed f fa H) (hr : i ∈ Region.ready .any ops listed) (hiL : i ∈ L) :
      ∃ o r, ops[i]? = some o ∧ pu i = true ∧ StepD P ops o fa H r ∧ SInv P pu hf ops done rem (L.erase i) (listed.setIfInBounds i true) f (updO fa o.dst r) H := by
  obtain ⟨hirem, o, ho, hpu, hl1, hl2, r, hr1, hr2, hr3⟩ := hi.good i hiL
  have hlti := (Array.getElem?_eq_some_iff.1 ho).1
  obtain ⟨m1, o', m2, m3⟩ := mem_ready.1 hr
  rw [ho] at m2; cases m2
  have hag : ∀ t ∈ o.looksAt ops, f t = fa t := by
    intro t ht
    refine (hi.agree t fun k hk ok hok hd => ?_).symm
    obtain ⟨_, o2, ho2, _, g1, _⟩ := hi.good k hk
    rw [hok] at ho2; cases ho2
    have hre := g1 i o t ho hd ht
    have hkl := reach_listed hi.closed hre fun o3 h3 e he hb => by rw [ho] at h3; cases h3; exact m3 e he hb
    have := (hi.un k (Array.getElem?_eq_some_iff.1 hok).1).2 (.inr hk)
    rw [hkl] at this; cases this
  refine ⟨o, r, ho, hpu, stepD_congr (hsm i o ho) hag hr1, by simp [hi.size], fun k hk => ?_, hi.remlt, closed_set hi.closed hr, hi.dn, hi.dclosed, hi.nodup.erase i, hi.rnodup, fun k hk => hi.good k (List.mem_of_mem_erase hk), fun t ht => ?_⟩
  · rw [getD_set (by rw [hi.size]; exact hlti), hi.nodup.mem_erase_iff]
    by_cases hki : k = i
    · subst hki; simp [hirem]
    · rw [if_neg hki, hi.un k hk]; simp [hki]
  · cases hd : o.dst with
    | none =>
      refine hi.agree t fun k hk ok hok => ?_
      by_cases hki : k = i
      · subst hki; rw [ho] at hok; cases hok; rw [hd]; simp
      · exact ht k (hi.nodup.mem_erase_iff.2 ⟨hki, hk⟩) ok hok
    | some d =>
      simp only [updO, upd]
      by_cases htd : t = d
      · subst htd; rw [if_pos rfl]; exact (hr3 _ hd).symm
      · rw [if_neg htd]
        refine hi.agree t fun k hk ok hok => ?_
        by_cases hki : k = i
        · subst hki; rw [ho] at hok; cases hok; rw [hd]; simpa using fun e => htd e.symm
        · exact ht k (hi.nodup.mem_erase_iff.2 ⟨hki, hk⟩) ok hok
theorem vx_imp {tab : List (Nat × Oper × Nat)} (htab : TabOk ops tab) {hf : Oper → Bool} (hsm : ∀ (i : Nat) (o : Oper), ops[i]? = some o → smallO n ops o = true)
    (hlt : ∀ (j : Nat) (o : Oper), ops[j]? = some o → ∀ e ∈ o.after, Region.binds .any e = true → e.on < j) {ds : List ADef} {p : OPlan} {fuel : Nat} {done rem L : List Nat} {listed : Array Bool} {f fa : Fr} {H : List Blk} {i0 : Nat} {lt : List Nat} {oi : Oper}
    (hi : SInv P pu hf ops done rem L listed f fa H) (hir : i0 ∈ Region.ready .any ops listed) (ho0 : ops[i0]? = some oi) (hpu : pu i0 = false) (hrd : readyB ops rem i0 = true)
    (hop2 : (done.all fun j => (maskOf tab i0).testBit j || !pu j || (match ops[j]? with | none => false | some oj => pu j && !lookB ops oj oi && (lt.contains j || hf oj))) = true)
    (hrest : planX pu hf ops tab (i0 :: done) (rem.erase i0) p = true) (hfu : rem.length + L.length ≤ fuel + 1)
    (hv : StepB P ops oi f H ds Q (fun f' H' => (∀ j ∈ lt, ∀ oj, ops[j]? = some oj → ∃ r, StepD P ops oj f' H' r ∧ ∀ d, oj.dst = some d → f' d = r) ∧ VX P pu hf ops Q ds p f' H')) :
    StepB P ops oi fa H ds Q (fun f' H' => AA P pu ops Q ds fuel (listed.setIfInBounds i0 true) f' H') := by
  have hrd' := hrd
  simp only [readyB, Bool.and_eq_true, List.contains_iff_mem] at hrd'
  obtain ⟨hi0r, hedges⟩ := hrd'
  have hi0l := hi.remlt _ hi0r
  have hlen0 := List.length_erase_of_mem hi0r
  have hpos0 := List.length_pos_of_mem hi0r
  rw [ho0] at hedges
  simp only at hedges
  simp only [List.all_eq_true, Bool.or_eq_true] at hop2
  have hed : ∀ e ∈ oi.after, Region.binds .any e = true → e.on ∉ rem := by
    intro e he hb hm
    have := List.all_eq_true.1 hedges e (by simpa using he)
    simp only [hb, Bool.not_true, Bool.false_or, Bool.and_eq_true, Bool.not_eq_true'] at this
    rw [List.contains_iff_mem.2 hm] at this; exact absurd this.1 (by simp)
  have hdn : ∀ i, i < ops.size → (i ∈ i0 :: done ↔ i ∉ rem.erase i0) := by
    intro i hil
    rw [hi.rnodup.mem_erase_iff, List.mem_cons, hi.dn i hil]
    by_cases h : i = i0
    · subst h; simp
    · simp [h]
  have hdc : ∀ i o, ops[i]? = some o → i ∉ rem.erase i0 → ∀ e ∈ o.after, Region.binds .any e = true → e.on ∉ rem.erase i0 := by
    intro i o ho hnm e he hb hm
    have hm' := List.mem_of_mem_erase hm
    by_cases h : i = i0
    · subst h; rw [ho0] at ho; cases ho; exact hed e he hb hm'
    · refine hi.dclosed i o ho (fun hir => hnm (hi.rnodup.mem_erase_iff.2 ⟨h, hir⟩)) e he hb hm'
  obtain ⟨m1, o, m2, m3⟩ := mem_ready.1 hir
  have hil := (Array.getElem?_eq_some_iff.1 m2).1
  have hag : ∀ t ∈ oi.looksAt ops, f t = fa t := by
    intro t ht
    refine (hi.agree t fun k hk ok hok hd => ?_).symm
    obtain ⟨_, o2, ho2, _, g1, _⟩ := hi.good k hk
    rw [hok] at ho2; cases ho2
    have hre := g1 i0 oi t ho0 hd ht
    have hkl := reach_listed hi.closed hre fun o3 h3 e he hb => by rw [m2] at h3; cases h3; exact m3 e he hb
    have := (hi.un k (Array.getElem?_eq_some_iff.1 hok).1).2 (.inr hk)
    rw [hkl] at this; cases this
  rw [ho0] at m2; cases m2
  have hmask : maskFr ops f = maskFr ops fa := by
    funext t
    unfold maskFr
    split
    · rfl
    · rename_i hno
      refine (hi.agree t fun j hj o ho hd => hno ?_).symm
      rw [Array.any_eq_true']
      exact ⟨o, Array.mem_of_getElem? ho, by simp [hd]⟩
  refine stepB_congr (hsm _ _ ho0) hag hmask (fun r H' hk => ?_) hv
  obtain ⟨hlate, hv'⟩ := hk
  refine vx_sound htab hsm hlt p fuel (i0 :: done) (rem.erase i0) L _ (updO f oi.dst r) (updO fa oi.dst r) H' hrest ?_ (by omega) hv'
  refine ⟨by simp [hi.size], fun k hkl => ?_, fun k h => hi.remlt k (List.mem_of_mem_erase h), closed_set hi.closed hir, hdn, hdc, hi.nodup, hi.rnodup.erase i0, fun j hj => ?_, fun t ht => ?_⟩
  · rw [getD_set (by rw [hi.size]; exact hi0l), hi.rnodup.mem_erase_iff]
    by_cases h : k = i0
    · subst h; simp; exact fun h => (hi.good k h).1 hi0r
    · rw [if_neg h, hi.un k hkl]; simp [h]
  · obtain ⟨hjr, o, ho, g1, g2, g3, r', h1, h2, h3⟩ := hi.good j hj
    have hjl := (Array.getElem?_eq_some_iff.1 ho).1
    have hjd : j ∈ done := (hi.dn j hjl).2 hjr
    have hnre : (maskOf tab i0).testBit j ≠ true := fun h => by
      have := reach_listed hi.closed (maskOf_spec htab h) fun o' ho' e he hb => m3 e (by rw [ho0] at ho'; cases ho'; exact he) hb
      have h2 := (hi.un j hjl).2 (.inr hj)
      rw [this] at h2; cases h2
    have hcl := (hop2 j hjd).resolve_left (fun h => h.elim hnre fun h => by rw [(hi.good j hj).2.choose_spec.2.1] at h; cases h)
    rw [ho] at hcl
    simp only [Bool.and_eq_true, Bool.or_eq_true, Bool.not_eq_true'] at hcl
    obtain ⟨⟨_, hlook⟩, hlf⟩ := hcl
    have hun : ∀ t ∈ o.looksAt ops, f t = updO f oi.dst r t := by
      intro t ht
      refine (updO_of_not (l := o.looksAt ops) (fun d hd hm => ?_) t ht).symm
      simp only [lookB, hd] at hlook
      rw [List.contains_iff_mem.2 hm] at hlook; cases hlook
    have hdst : ∀ d, o.dst = some d → updO f oi.dst r d = f d := by
      intro d hd
      have hne : oi.dst ≠ some d := g3 i0 oi d ho0 (fun e => hjr (e ▸ hi0r)) hd
      cases hd0 : oi.dst with
      | none => rfl
      | some d0 => simp only [updO, upd]; rw [if_neg]; rintro rfl; exact hne hd0
    refine ⟨fun h => hjr (List.mem_of_mem_erase h), o, ho, g1, g2, g3, ?_⟩
    by_cases hh : hf o = true
    · exact ⟨r', stepD_congr (hsm _ _ ho) hun (h2 hh H'), fun h H'' => stepD_congr (hsm _ _ ho) hun (h2 h H''), fun d hd => by rw [hdst d hd]; exact h3 d hd⟩
    · have hjlate : j ∈ lt := List.contains_iff_mem.1 (hlf.resolve_right hh)
      obtain ⟨r2, q1, q2⟩ := hlate j hjlate o ho
      exact ⟨r2, q1, fun h => absurd h hh, q2⟩
  · cases hd0 : oi.dst with
    | none => exact hi.agree t ht
    | some d0 =>
      simp only [updO, upd]
      by_cases htd : t = d0
      · rw [if_pos htd, if_pos htd]
      · rw [if_neg htd, if_neg htd]; exact hi.agree t ht
/-! ### A fork: behind operations that change nothing, either of two comes first -/
structure Fork where
  pre : List Nat
  (i j : Nat)
  (li lj : List Nat)
  (pi pj : OPlan)
def headB (pu : Nat → Bool) (hf : Oper → Bool) (ops : Array Oper) (tab : List (Nat × Oper × Nat)) (done rem : List Nat) (i : Nat) (lt : List Nat) (p : OPlan) : Bool :=
  readyB ops rem i && !pu i && (match ops[i]? with
    | none => false
    | some oi => done.all fun j => (maskOf tab i).testBit j || !pu j || (match ops[j]? with | none => false | some oj => pu j && !lookB ops oj oi && (lt.contains j || hf oj))) &&
  planX pu hf ops tab (i :: done) (rem.erase i) p
def planF (pu : Nat → Bool) (hf : Oper → Bool) (ops : Array Oper) (tab : List (Nat × Oper × Nat)) (k : Fork) : List Nat → List Nat → List Nat → Bool
  | done, rem, [] => (rem.all fun x => x == k.i || x == k.j || (maskOf tab x).testBit k.i || (maskOf tab x).testBit k.j) && headB pu hf ops tab done rem k.i k.li k.pi && headB pu hf ops tab done rem k.j k.lj k.pj
  | done, rem, i :: rest => readyB ops rem i && pu i && (match ops[i]? with | none => false | some oi => aloneB ops tab i oi) && planF pu hf ops tab k (i :: done) (rem.erase i) rest
def VF (P : Program) (pu : Nat → Bool) (hf : Oper → Bool) (ops : Array Oper) (Q : AQ) (ds : List ADef) (k : Fork) : List Nat → Fr → List Blk → Prop
  | [], f, H => VX P pu hf ops Q ds ((k.i, k.li) :: k.pi) f H ∧ VX P pu hf ops Q ds ((k.j, k.lj) :: k.pj) f H
  | i :: rest, f, H => match ops[i]? with
    | none => False
    | some o => ∃ r, StepD P ops o f H r ∧ (hf o = true → ∀ H', StepD P ops o f H' r) ∧ VF P pu hf ops Q ds k rest (updO f o.dst r) H
theorem vf_sound {tab : List (Nat × Oper × Nat)} (htab : TabOk ops tab) {hf : Oper → Bool} (hsm : ∀ (i : Nat) (o : Oper), ops[i]? = some o → smallO n ops o = true)
    (hlt : ∀ (j : Nat) (o : Oper), ops[j]? = some o → ∀ e ∈ o.after, Region.binds .any e = true → e.on < j) {ds : List ADef} {k : Fork} : ∀ (p : List Nat) (fuel : Nat) (done rem L : List Nat) (listed : Array Bool) (f fa : Fr) (H : List Blk), planF pu hf ops tab k done rem p = true → SInv P pu hf ops done rem L listed f fa H → rem.length + L.length ≤ fuel →
    VF P pu hf ops Q ds k p f H → AA P pu ops Q ds fuel listed fa H := by
  intro p
  induction p with
  | nil =>
    intro fuel
    induction fuel with
    | zero =>
      intro done rem L listed f fa H hc hi hfu hv
      exfalso
      simp only [planF, headB, readyB, Bool.and_eq_true, List.contains_iff_mem] at hc
      have := List.length_pos_of_mem hc.2.1.1.1.1
      omega
    | succ fuel ih =>
      intro done rem L listed f fa H hc hi hfu hv
      have hc0 := hc
      simp only [planF, Bool.and_eq_true] at hc
      obtain ⟨⟨hall, hhi⟩, hhj⟩ := hc
      obtain ⟨hvi, hvj⟩ := hv
      have step : ∀ (x : Nat) (lt : List Nat) (pl : OPlan), headB pu hf ops tab done rem x lt pl = true → VX P pu hf ops Q ds ((x, lt) :: pl) f H → x ∈ Region.ready .any ops listed →
          ∃ o, ops[x]? = some o ∧ if pu x = true then ∃ r, StepD P ops o fa H r ∧ AA P pu ops Q ds fuel (listed.setIfInBounds x true) (updO fa o.dst r) H else StepB P ops o fa H ds Q (fun f' H' => AA P pu ops Q ds fuel (listed.setIfInBounds x true) f' H') := by
        intro x lt pl hh hvx hxr
        simp only [headB, Bool.and_eq_true, Bool.not_eq_true'] at hh
        obtain ⟨⟨⟨h1, h2⟩, h3⟩, h4⟩ := hh
        cases ho : ops[x]? with
        | none => rw [ho] at h3; cases h3
        | some o =>
          rw [ho] at h3
          simp only [VX, ho, h2, Bool.false_eq_true, if_false] at hvx
          refine ⟨o, rfl, ?_⟩
          rw [if_neg (by simp [h2])]
          exact vx_imp htab hsm hlt hi hxr ho h2 h1 h3 h4 hfu hvx
      refine ⟨fun hn => ?_, fun x hir => ?_⟩
      · obtain ⟨rfl, _⟩ := sinv_ready hsm hlt hi hn
        simp only [headB, readyB, Bool.and_eq_true, List.contains_iff_mem] at hhi
        cases hhi.1.1.1.1
      · obtain ⟨m1, o, m2, m3⟩ := mem_ready.1 hir
        have hil := (Array.getElem?_eq_some_iff.1 m2).1
        rw [getD_tf (by rw [hi.size]; exact hil)] at m1
        rcases (hi.un x hil).1 m1 with hm | hm
        · have hx := List.all_eq_true.1 hall x hm
          simp only [Bool.or_eq_true, beq_iff_eq] at hx
          have no : ∀ y, y ∈ rem → (maskOf tab x).testBit y = true → False := fun y hy hb => by
            have := reach_listed hi.closed (maskOf_spec htab hb) fun o' ho' e he hb => m3 e (by rw [m2] at ho'; cases ho'; exact he) hb
            have h2 := (hi.un y (hi.remlt y hy)).2 (.inl hy)
            rw [this] at h2; cases h2
          have hri : k.i ∈ rem := by simp only [headB, readyB, Bool.and_eq_true, List.contains_iff_mem] at hhi; exact hhi.1.1.1.1
          have hrj : k.j ∈ rem := by simp only [headB, readyB, Bool.and_eq_true, List.contains_iff_mem] at hhj; exact hhj.1.1.1.1
          rcases hx with ((hx | hx) | hx) | hx
          · subst hx; exact step _ _ _ hhi hvi hir
          · subst hx; exact step _ _ _ hhj hvj hir
          · exact (no _ hri hx).elim
          · exact (no _ hrj hx).elim
        · obtain ⟨o', r, ho, hpu', hst, hinv⟩ := sinv_late hsm hlt hi hir hm
          refine ⟨o', ho, ?_⟩
          rw [if_pos hpu']
          have hlen := List.length_erase_of_mem hm
          have hpos := List.length_pos_of_mem hm
          exact ⟨r, hst, ih done rem (L.erase x) _ f _ H hc0 hinv (by omega) ⟨hvi, hvj⟩⟩
  | cons i0 p ihp =>
    intro fuel done rem L listed f fa H hc hi hfu hv
    simp only [planF, Bool.and_eq_true] at hc
    obtain ⟨⟨⟨hrd, hpu⟩, hop⟩, hrest⟩ := hc
    have hrd' := hrd
    simp only [readyB, Bool.and_eq_true, List.contains_iff_mem] at hrd'
    obtain ⟨hi0r, hedges⟩ := hrd'
    have hi0l := hi.remlt _ hi0r
    have ho0 : ops[i0]? = some (ops[i0]'hi0l) := Array.getElem?_eq_getElem hi0l
    generalize ops[i0]'hi0l = oi at ho0
    have hlen0 := List.length_erase_of_mem hi0r
    have hpos0 := List.length_pos_of_mem hi0r
    rw [ho0] at hop hedges
    simp only at hop hedges
    simp only [VF, ho0] at hv
    have hed : ∀ e ∈ oi.after, Region.binds .any e = true → e.on ∉ rem := by
      intro e he hb hm
      have := List.all_eq_true.1 hedges e (by simpa using he)
      simp only [hb, Bool.not_true, Bool.false_or, Bool.and_eq_true, Bool.not_eq_true'] at this
      rw [List.contains_iff_mem.2 hm] at this; exact absurd this.1 (by simp)
    have hdn : ∀ i, i < ops.size → (i ∈ i0 :: done ↔ i ∉ rem.erase i0) := by
      intro i hil
      rw [hi.rnodup.mem_erase_iff, List.mem_cons, hi.dn i hil]
      by_cases h : i = i0
      · subst h; simp
      · simp [h]
    have hdc : ∀ i o, ops[i]? = some o → i ∉ rem.erase i0 → ∀ e ∈ o.after, Region.binds .any e = true → e.on ∉ rem.erase i0 := by
      intro i o ho hnm e he hb hm
      have hm' := List.mem_of_mem_erase hm
      by_cases h : i = i0
      · subst h; rw [ho0] at ho; cases ho; exact hed e he hb hm'
      · refine hi.dclosed i o ho (fun hir => hnm (hi.rnodup.mem_erase_iff.2 ⟨h, hir⟩)) e he hb hm'
    obtain ⟨r, hr1, hr2, hv'⟩ := hv
    have hal1 : ∀ k ok d, ops[k]? = some ok → oi.dst = some d → d ∈ ok.looksAt ops → Reach ops k i0 := by
      intro k ok d hok hd hm
      simp only [aloneB, hd, List.all_eq_true, List.mem_range] at hop
      have := hop k (Array.getElem?_eq_some_iff.1 hok).1
      rw [hok] at this
      simp only [Bool.and_eq_true, Bool.or_eq_true, Bool.not_eq_true'] at this
      rcases this.1 with h | h
      · rw [List.contains_iff_mem.2 hm] at h; cases h
      · exact maskOf_spec htab h
    have hal2 : ∀ k ok d, ops[k]? = some ok → k ≠ i0 → oi.dst = some d → ok.dst ≠ some d := by
      intro k ok d hok hne hd
      simp only [aloneB, hd, List.all_eq_true, List.mem_range] at hop
      have := hop k (Array.getElem?_eq_some_iff.1 hok).1
      rw [hok] at this
      simp only [Bool.and_eq_true, Bool.or_eq_true, beq_iff_eq, bne_iff_ne] at this
      exact this.2.resolve_left hne
    have hun : ∀ o : Oper, (∃ j, ops[j]? = some o ∧ ¬ Reach ops j i0) → ∀ t ∈ o.looksAt ops, f t = updO f oi.dst r t := by
      rintro o ⟨j, hj, hnr⟩ t ht
      refine (updO_of_not (l := o.looksAt ops) (fun d hd hm => hnr (hal1 j o d hj hd hm)) t ht).symm
    refine ihp fuel (i0 :: done) (rem.erase i0) (i0 :: L) listed (updO f oi.dst r) fa H hrest ?_ (by simp; omega) hv'
    have hi0L : i0 ∉ L := fun h => (hi.good i0 h).1 hi0r
    refine ⟨hi.size, fun i hil => ?_, fun i h => hi.remlt i (List.mem_of_mem_erase h), hi.closed, hdn, hdc, List.nodup_cons.2 ⟨hi0L, hi.nodup⟩, hi.rnodup.erase i0, fun j hj => ?_, fun t ht => ?_⟩
    · rw [hi.un i hil, hi.rnodup.mem_erase_iff, List.mem_cons]
      by_cases h : i = i0
      · subst h; simp [hi0r]
      · simp [h]
    · rcases List.mem_cons.1 hj with rfl | hj
      · refine ⟨fun h => (hi.rnodup.mem_erase_iff.1 h).1 rfl, oi, ho0, hpu, hal1, hal2, r, ?_, ?_, ?_⟩
        · exact stepD_congr (hsm _ _ ho0) (hun oi ⟨_, ho0, fun h => Nat.lt_irrefl _ (reach_lt hlt h)⟩) hr1
        · exact fun h H' => stepD_congr (hsm _ _ ho0) (hun oi ⟨_, ho0, fun h => Nat.lt_irrefl _ (reach_lt hlt h)⟩) (hr2 h H')
        · intro d hd; simp [updO, upd, hd]
      · obtain ⟨hjr, o, ho, g1, g2, g3, r', h1, h2, h3⟩ := hi.good j hj
        have hnr : ¬ Reach ops j i0 := fun h => reach_closed (S := fun k => k ∉ rem) (fun i o ho hn e he hb => hi.dclosed i o ho hn e he hb) h hjr hi0r
        refine ⟨fun h => hjr (List.mem_of_mem_erase h), o, ho, g1, g2, g3, r', stepD_congr (hsm _ _ ho) (hun o ⟨j, ho, hnr⟩) h1, fun h H' => stepD_congr (hsm _ _ ho) (hun o ⟨j, ho, hnr⟩) (h2 h H'), fun d hd => ?_⟩
        have hne : oi.dst ≠ some d := g3 i0 oi d ho0 (fun e => hjr (e ▸ hi0r)) hd
        rw [← h3 d hd]
        cases hd0 : oi.dst with
        | none => rfl
        | some d0 => simp only [updO, upd]; rw [if_neg]; rintro rfl; exact hne hd0
    · have e1 : fa t = f t := hi.agree t fun j hj o ho => ht j (List.mem_cons_of_mem _ hj) o ho
      rw [e1]
      have e2 := ht i0 (by simp) oi ho0
      cases hd0 : oi.dst with
      | none => rfl
      | some d0 => simp only [updO, upd]; rw [if_neg]; rintro rfl; exact e2 hd0
variable {hn : Nat → Bool}
theorem vx_head {ops : Array Oper} {Q : AQ} {ds : List ADef} (hnd : ops.all noDefer = true) {tab : List (Nat × Oper × Nat)} {done rem : List Nat} {i : Nat} {late : List Nat} {p : OPlan} {f : Fr} {H : List Blk}
    (hc : headB (puOf (pureOp hn) ops) hfreeOp ops tab done rem i late p = true) (hl : ∀ x ∈ (i, late) :: p, ∀ j ∈ x.2, ∀ o, ops[j]? = some o → puOf (pureOp hn) ops j = true) (h : vcX P hn ops Q ds ((i, late) :: p) f H) : VX P (puOf (pureOp hn) ops) hfreeOp ops Q ds ((i, late) :: p) f H := by
  simp only [headB, Bool.and_eq_true, Bool.not_eq_true'] at hc
  obtain ⟨⟨⟨hrd, hpu⟩, hop⟩, hrest⟩ := hc
  simp only [vcX] at h
  simp only [VX]
  cases ho : ops[i]? with
  | none => rw [ho] at hop; cases hop
  | some o =>
    have hndo : noDefer o = true := Array.all_eq_true_iff_forall_mem.1 hnd _ (Array.mem_of_getElem? ho)
    have hone : opsAt ops [i] = [o] := by simp [opsAt, ho]
    rw [hone] at h
    simp only [hpu, Bool.false_eq_true, if_false]
    refine stepB_mono (fun f' H' hk => ⟨fun j hj oj hoj => ?_, vx_of_vcX hnd p _ _ _ _ hrest (fun x hx => hl x (by simp [hx])) hk.2⟩) (one_bar (Q := Q) (Q' := thenQ (fun f' H' _ => lateV P hn ops f' H' (opsAt ops late) ∧ vcX P hn ops Q ds p f' H') Q) (fun _ _ _ _ h => h) hndo h)
    have hpj := hl (i, late) (by simp) j hj oj hoj
    have hndj : noDefer oj = true := Array.all_eq_true_iff_forall_mem.1 hnd _ (Array.mem_of_getElem? hoj)
    have hv := lateV_mem hk.1 oj (by simp only [opsAt, List.mem_filterMap]; exact ⟨j, hj, hoj⟩)
    obtain ⟨r, h1, _, h3⟩ := one_det hndj (pureOf_pu hoj hpj) hv
    refine ⟨r, h1, fun d hd => ?_⟩
    simp only [lateQ, hd] at h3
    have := h3.2
    simpa [updO, upd] using this.symm
/-- What is to be shown behind the operations that change nothing: both ways. -/
def forkQ (P : Program) (hn : Nat → Bool) (ops : Array Oper) (Q : AQ) (ds : List ADef) (k : Fork) : AQ := fun x f H ds' => match x with
  | .normal => vcX P hn ops Q ds ((k.i, k.li) :: k.pi) f H ∧ vcX P hn ops Q ds ((k.j, k.lj) :: k.pj) f H
  | x => Q x f H ds'
theorem vf_of_vcX {ops : Array Oper} {Q : AQ} {ds : List ADef} {k : Fork} (hnd : ops.all noDefer = true) {tab : List (Nat × Oper × Nat)} (hli : ∀ x ∈ (k.i, k.li) :: k.pi, ∀ j ∈ x.2, ∀ o, ops[j]? = some o → puOf (pureOp hn) ops j = true) (hlj : ∀ x ∈ (k.j, k.lj) :: k.pj, ∀ j ∈ x.2, ∀ o, ops[j]? = some o → puOf (pureOp hn) ops j = true) :
    ∀ (p done rem : List Nat) (f : Fr) (H : List Blk), planF (puOf (pureOp hn) ops) hfreeOp ops tab k done rem p = true → vcX P hn ops (forkQ P hn ops Q ds k) ds (p.map fun i => (i, [])) f H → VF P (puOf (pureOp hn) ops) hfreeOp ops Q ds k p f H
  | [], done, rem, f, H, hc, h => by
    simp only [planF, Bool.and_eq_true] at hc
    exact ⟨vx_head hnd hc.1.2 hli h.1, vx_head hnd hc.2 hlj h.2⟩
  | i :: p, done, rem, f, H, hc, h => by
    simp only [planF, Bool.and_eq_true] at hc
    obtain ⟨⟨⟨hrd, hpu⟩, hop⟩, hrest⟩ := hc
    simp only [List.map_cons, vcX] at h
    simp only [VF]
    cases ho : ops[i]? with
    | none => rw [ho] at hop; cases hop
    | some o =>
      have hndo : noDefer o = true := Array.all_eq_true_iff_forall_mem.1 hnd _ (Array.mem_of_getElem? ho)
      have hone : opsAt ops [i] = [o] := by simp [opsAt, ho]
      rw [hone] at h
      obtain ⟨r, h1, h2, h3⟩ := one_det hndo (pureOf_pu ho hpu) h
      exact ⟨r, h1, h2, vf_of_vcX hnd hli hlj p _ _ _ _ hrest h3.2⟩
def forkB (hn : Nat → Bool) (n : Nat) (ops : Array Oper) (k : Fork) : Bool :=
  ops.toList.all (smallO n ops) && planF (puOf (pureOp hn) ops) hfreeOp ops (mkTab ops [] (List.range ops.size)) k [] (List.range ops.size) k.pre && lateB (puOf (pureOp hn) ops) ops ((k.i, k.li) :: k.pi) && lateB (puOf (pureOp hn) ops) ops ((k.j, k.lj) :: k.pj) &&
  ((List.range ops.size).all fun j => match ops[j]? with
    | none => true
    | some o => o.after.toList.all fun e => !Region.binds .any e || decide (e.on < j)) && ops.all noDefer
theorem awp_region_fork (hn : Nat → Bool) (k : Fork) {id : Nat} {ops : Array Oper} {Q : AQ} {f : Fr} {H : List Blk} {ds : List ADef} (hs : (forkB hn n ops k && P.follows .mixedOrders) = true)
    (h : vcX P hn ops (forkQ P hn ops Q ds k) ds (k.pre.map fun i => (i, [])) f H) : AWP P n (.region id ops true) Q f H ds := by
  simp only [forkB, Bool.and_eq_true, List.all_eq_true] at hs
  obtain ⟨⟨⟨⟨⟨⟨hs1, hs2⟩, hs3⟩, hs4⟩, hs5⟩, hs6⟩, hm⟩ := hs
  have hsm : ∀ (i : Nat) (o : Oper), ops[i]? = some o → smallO n ops o = true := fun i o ho => hs1 o (by simpa using Array.mem_of_getElem? ho)
  have lt : ∀ p : OPlan, lateB (puOf (pureOp hn) ops) ops p = true → ∀ x ∈ p, ∀ j ∈ x.2, ∀ o, ops[j]? = some o → puOf (pureOp hn) ops j = true := fun p hp x hx j hj o ho => by
    simp only [lateB, List.all_eq_true] at hp
    have := hp x hx j hj
    rw [ho] at this; exact this
  have hv := vf_of_vcX hs6 (lt _ hs3) (lt _ hs4) k.pre [] (List.range ops.size) f H hs2 h
  intro ro hro B w0 cx0 cx a h1 h2 h3 h4 h5
  subst h3
  refine wpIn_region_any hm ?_
  refine aa_sound (P := P) (pu := puOf (pureOp hn) ops) (Q := Q) (B := B) (w0 := w0) (cx0 := cx0) (ro := ro) (fun i o ho hs => by have := hro hs; simp only [noDefC, List.all_eq_true] at this; exact this o (by simpa using Array.mem_of_getElem? ho)) hsm ops.size (Array.replicate ops.size false) f cx.drew a ?_ (hrel_drew h1) (h2.trans (le_drew cx)) (h4.mono (le_drew cx)) (h5.mono (le_drew cx))
  refine vf_sound (hf := hfreeOp) (mkTab_ok (List.range ops.size) [] (fun d hd => (by cases hd))) hsm (fun j o ho e he hb => ?_) k.pre ops.size [] (List.range ops.size) [] _ f f cx.H hs2 ⟨by simp, fun i hi => ?_, fun i hi => by simpa using hi, fun i o ho hl => ?_, fun i hi => by simp [hi], fun i o ho hn => ?_, List.nodup_nil, List.nodup_range, fun j hj => (by cases hj), fun t _ => rfl⟩ (by simp) hv
  · have := hs5 j (List.mem_range.2 (Array.getElem?_eq_some_iff.1 ho).1)
    rw [ho] at this
    simp only [List.all_eq_true] at this
    have := this e (by simpa using he)
    simpa [hb] using this
  · simp [Array.getD_eq_getD_getElem?, Array.getElem?_replicate, hi]
  · exfalso
    have hlt : i < ops.size := (Array.getElem?_eq_some_iff.1 ho).1
    simp [Array.getD_eq_getD_getElem?, Array.getElem?_replicate, hlt] at hl
  · exfalso
    exact hn (by simpa using (Array.getElem?_eq_some_iff.1 ho).1)
@[simp ↓] theorem QW_forkN (l : List Oper) (Q : AQ) (ds0 : List ADef) (k : Fork) (f : Fr) (H : List Blk) (ds : List ADef) (w : Wit (forkQ P hn l.toArray Q ds0 k, AX.normal, f, H, ds)) : QW (forkQ P hn l.toArray Q ds0 k) .normal f H ds w = (vcXW P hn ((k.i, k.li) :: k.pi) l.toArray Q f H ds0 (wit _) ∧ vcXW P hn ((k.j, k.lj) :: k.pj) l.toArray Q f H ds0 (wit _)) := (rfl)
@[simp ↓] theorem QW_forkP (l : List Oper) (Q : AQ) (ds0 : List ADef) (k : Fork) (x : AV) (f : Fr) (H : List Blk) (ds : List ADef) (w : Wit (forkQ P hn l.toArray Q ds0 k, AX.pan x, f, H, ds)) : QW (forkQ P hn l.toArray Q ds0 k) (.pan x) f H ds w = QW Q (.pan x) f H ds (wit _) := (rfl)
end
end Go.Mu
namespace Go.Mu
open Go.RowKit (Below)
section
variable {P : Program}
/-- What arguments show of own memory. -/
def Shows (H : List Blk) (args args' : List AV) : Prop := ∀ B w0 cx vals, HRel B w0 cx → cx.H = H → RepL cx false args vals → ∃ cx1, HRel B w0 cx1 ∧ cx1.w = cx.w ∧ RepL cx1 false args' vals
theorem Shows.refl (H : List Blk) (args : List AV) : Shows H args args := fun B w0 cx vals h1 h2 h3 => ⟨cx, h1, rfl, h3⟩
/-- A row of the call's own shows what it holds. -/
theorem Shows.row {H : List Blk} {args args' : List AV} (k sz : Nat) (t : TypeId) (es : List (List AV)) (hk : H[k]? = some (.row t sz es)) (hz : es.flatten.all AV.frzB = true) (h : Shows (frzH k sz es H) (frzL k sz es args) args') : Shows H args args' := by
  intro B w0 cx vals h1 h2 h3
  subst h2
  obtain ⟨cx1, a, b, c⟩ := h B w0 (cx.frz k sz es) vals (hrel_frz h1 hk hz) rfl (repL_frz h1 hk hz h3)
  exact ⟨cx1, a, b, c⟩
theorem acalls_apart {fid : FuncId} {args args' : List AV} {H : List Blk} {x : Value} (hs : Shows H args args') (hu : underL 0 args' = true) (h : ACalls P fid args' [] (fun e H' => e = .ret (.v x) ∧ H' = [])) :
    ACalls P fid args H (fun e H' => e = .ret (.v x) ∧ H' = H) := by
  intro B w0 cx vals h1 h2 h3
  subst h2
  obtain ⟨cx1, a1, a2, a3⟩ := hs B w0 cx vals h1 rfl h3
  have e1 : cx1.H = [] ++ cx1.H := rfl
  have r1 := repL_cut e1 a3 hu
  have hr : HRel cx.w.heap.size cx.w (cx1.cut []) := by
    refine ⟨?_, ?_, fun b hb => ?_, fun k bl hk => ?_, fun k k' bl bl' hk => ?_⟩
    · show Below _ cx.w cx1.w
      rw [a2]; exact Below.refl _ _
    · show _ ≤ cx1.w.heap.size
      rw [a2]; exact Nat.le_refl _
    · exact a1.frz b hb
    · simp [Cx.cut] at hk
    · simp [Cx.cut] at hk
  have := h cx.w.heap.size cx.w (cx1.cut []) vals hr rfl r1
  rw [show (cx1.cut []).w = cx.w from a2] at this
  refine this.mono fun e w' he => ?_
  cases e with
  | returned y =>
    obtain ⟨cx', r, rfl, b1, b2, b3, b4, b5⟩ := he
    cases b4
    have hb : Below cx.w.heap.size cx.w cx'.w := b1.below
    refine ⟨{ cx with w := cx'.w }, .v x, rfl, hrel_ext h1 hb, ⟨fun b o x hf hc => ?_, fun b h => h, fun k bl hk hf => ⟨bl, hk, hf, rfl⟩, fun k t sz es hk => .inr ⟨es, hk, Nat.le_refl _, fun _ => ⟨rfl, rfl⟩⟩⟩, ?_, rfl, rfl⟩
    · show cx'.w.cell? _ = _
      rw [hb.cell (h1.frz b hf)]; exact hc
    · obtain rfl := b3.v_inv
      exact .v _
  | panicked ch => obtain ⟨cx', x', y, rfl, b1, b2, b3, b4, b5, b6⟩ := he; cases b5
  | outgrown => exact he
end
end Go.Mu
namespace Go.Mu
open Go.RowKit (Below)
section
variable {P : Program} {n : Nat} {c : Code} {Q : AQ}
/-- A row of the call's own is given away on the way. -/
theorem awp_give {f : Fr} {H : List Blk} (k sz : Nat) (t : TypeId) (es : List (List AV)) (hk : H[k]? = some (.row t sz es)) (hz : es.flatten.all AV.frzB = true)
    (h : AWP P n c Q (fun t => (f t).frz k sz es) (frzH k sz es H) []) : AWP P n c Q f H [] := by
  intro ro hro B w0 cx0 cx a h1 h2 h3 h4 h5
  subst h3
  refine h ro hro B w0 cx0 (cx.frz k sz es) a (hrel_frz h1 hk hz) (h2.trans (le_frz hk)) rfl ⟨h4.1, fun t ht => rep_frz h1 hk hz (h4.2 t ht)⟩ ?_
  cases hd : a.defers with
  | nil => trivial
  | cons d l => rw [hd] at h5; exact h5.elim
/-- Slots may be told less of. -/
theorem awp_weak {f f' : Fr} {H : List Blk} (hw : ∀ t, Weak (f t) (f' t)) (h : AWP P n c Q f' H []) : AWP P n c Q f H [] := by
  intro ro hro B w0 cx0 cx a h1 h2 h3 h4 h5
  exact h ro hro B w0 cx0 cx a h1 h2 h3 ⟨h4.1, fun t ht => (h4.2 t ht).weakens (hw t)⟩ h5
end
end Go.Mu
namespace Go.Proofs
open Go.Mu
theorem take_succ' {α : Type} {l : List α} {i : Nat} (h : i < l.length) : l.take (i + 1) = l.take i ++ [l[i]] := List.take_succ_eq_append_getElem h
abbrev U.sl (l : List Int) : AV := .vs 1 (l.map fun w => [U w])
@[simp] theorem nil20 : binE Try.prog .eql 20 (.v .nilIface) (.v .nilIface) = some (.v (.bool true)) := by kernel_rfl
@[simp] theorem ifc20 (t : Nat) (x : AV) : binE Try.prog .eql 20 (.ifc t x) (.v .nilIface) = some (.v (.bool false)) := by kernel_rfl
end Go.Proofs
namespace Go.Proofs
open Go.Mu
inductive Lk where
  | mk (kind : Int) (items : List Int) (taken : Bool) (subs : List (List Lk))
structure Pk where
  (kind item word : Int)
  stack : Bool
deriving DecidableEq
inductive Tm where
  | mk (kind : Int) (lines : List (List Pk)) (taken : Bool) (subs : List (List Tm))
def Lk.kind : Lk → Int | .mk k _ _ _ => k
def Lk.items : Lk → List Int | .mk _ i _ _ => i
def Lk.taken : Lk → Bool | .mk _ _ t _ => t
def Lk.subs : Lk → List (List Lk) | .mk _ _ _ s => s
def Tm.kind : Tm → Int | .mk k _ _ _ => k
def Tm.lines : Tm → List (List Pk) | .mk _ i _ _ => i
def Tm.taken : Tm → Bool | .mk _ _ t _ => t
def Tm.subs : Tm → List (List Tm) | .mk _ _ _ s => s
@[simp] def Pk.cells (p : Pk) : List AV := [I p.kind, I p.item, U p.word, Bo p.stack]
abbrev Pk.sl (l : List Pk) : AV := .vs 4 (l.map Pk.cells)
abbrev Pk.sls (l : List (List Pk)) : AV := .vs 1 (l.map fun a => [Pk.sl a])
mutual
def Lk.cells : Lk → List AV
  | .mk k i t s => [I k, U.sl i, Bo t, .vs 1 (lkssCells s)]
def lksCells : List Lk → List (List AV)
  | [] => []
  | x :: l => x.cells :: lksCells l
def lkssCells : List (List Lk) → List (List AV)
  | [] => []
  | a :: l => [.vs 4 (lksCells a)] :: lkssCells l
end
theorem lksCells_map (l : List Lk) : lksCells l = l.map Lk.cells := by
  induction l with
  | nil => simp [lksCells]
  | cons n l ih => simp [lksCells, ih]
abbrev Lk.sl (l : List Lk) : AV := .vs 4 (l.map Lk.cells)
abbrev Lk.sls (l : List (List Lk)) : AV := .vs 1 (l.map fun a => [Lk.sl a])
theorem lkssCells_map (l : List (List Lk)) : lkssCells l = l.map fun a => [Lk.sl a] := by
  induction l with
  | nil => simp [lkssCells]
  | cons n l ih => simp [lkssCells, ih, lksCells_map]
@[simp] theorem Lk.cells_eq (x : Lk) : x.cells = [I x.kind, U.sl x.items, Bo x.taken, Lk.sls x.subs] := by
  cases x; simp [Lk.cells, lkssCells_map, Lk.kind, Lk.items, Lk.taken, Lk.subs]
mutual
def Tm.cells : Tm → List AV
  | .mk k i t s => [I k, Pk.sls i, Bo t, .vs 1 (tmssCells s)]
def tmsCells : List Tm → List (List AV)
  | [] => []
  | x :: l => x.cells :: tmsCells l
def tmssCells : List (List Tm) → List (List AV)
  | [] => []
  | a :: l => [.vs 4 (tmsCells a)] :: tmssCells l
end
theorem tmsCells_map (l : List Tm) : tmsCells l = l.map Tm.cells := by
  induction l with
  | nil => simp [tmsCells]
  | cons n l ih => simp [tmsCells, ih]
abbrev Tm.sl (l : List Tm) : AV := .vs 4 (l.map Tm.cells)
abbrev Tm.sls (l : List (List Tm)) : AV := .vs 1 (l.map fun a => [Tm.sl a])
theorem tmssCells_map (l : List (List Tm)) : tmssCells l = l.map fun a => [Tm.sl a] := by
  induction l with
  | nil => simp [tmssCells]
  | cons n l ih => simp [tmssCells, ih, tmsCells_map]
@[simp] theorem Tm.cells_eq (x : Tm) : x.cells = [I x.kind, Pk.sls x.lines, Bo x.taken, Tm.sls x.subs] := by
  cases x; simp [Tm.cells, tmssCells_map, Tm.kind, Tm.lines, Tm.taken, Tm.subs]
/-! ### How much there is -/
mutual
def Lk.count : Lk → Nat
  | .mk _ i _ s => 1 + i.length + lkssCount s
def lksCount : List Lk → Nat
  | [] => 0
  | x :: l => x.count + lksCount l
def lkssCount : List (List Lk) → Nat
  | [] => 0
  | a :: l => 1 + lksCount a + lkssCount l
end
theorem Lk.count_eq (x : Lk) : x.count = 1 + x.items.length + lkssCount x.subs := by cases x; simp [Lk.count, Lk.items, Lk.subs]
theorem lksCount_drop {l : List Lk} {i : Nat} (h : i < l.length) : lksCount (l.drop i) = l[i].count + lksCount (l.drop (i + 1)) := by rw [drop_cons h, lksCount]
theorem lkssCount_drop {l : List (List Lk)} {i : Nat} (h : i < l.length) : lkssCount (l.drop i) = 1 + lksCount l[i] + lkssCount (l.drop (i + 1)) := by rw [drop_cons h, lkssCount]
theorem lks_len (l : List Lk) : l.length ≤ lksCount l := by
  induction l with
  | nil => simp
  | cons n l ih => simp only [List.length_cons, lksCount, Lk.count_eq]; omega
theorem lkss_len (l : List (List Lk)) : l.length ≤ lkssCount l := by
  induction l with
  | nil => simp
  | cons n l ih => simp only [List.length_cons, lkssCount]; omega
theorem lksCount_le (l : List Lk) (i : Nat) : lksCount (l.drop i) ≤ lksCount l := by
  induction l generalizing i with
  | nil => simp
  | cons n l ih => cases i with
    | zero => simp
    | succ i => simp only [List.drop_succ_cons, lksCount]; have := ih i; omega
theorem lkssCount_le (l : List (List Lk)) (i : Nat) : lkssCount (l.drop i) ≤ lkssCount l := by
  induction l generalizing i with
  | nil => simp
  | cons n l ih => cases i with
    | zero => simp
    | succ i => simp only [List.drop_succ_cons, lkssCount]; have := ih i; omega
theorem lks_get {l : List Lk} {i : Nat} (h : i < l.length) : l[i].count ≤ lksCount l := by
  have h1 := lksCount_drop h
  have h2 := lksCount_le l i
  omega
theorem lkss_get {l : List (List Lk)} {i : Nat} (h : i < l.length) : 1 + lksCount l[i] ≤ lkssCount l := by
  have h1 := lkssCount_drop h
  have h2 := lkssCount_le l i
  omega
/-! ### Leaving, counting -/
/-- The panic by which something is left. -/
def refL (e : Int) : AV := .ifc 161 (.agg [I e])
theorem leave_ok (e : Int) (H : List Blk) : ACalls Try.prog 64 [I e] H (fun x H' => x = .pan (refL e) ∧ H' = H) := by
  refine acalls_tidy (acalls_of_vc (hn := fun _ => false) (od := fun _ => none) Try.func64 rfl (by kernel_rfl) ?_)
  simp -dsimp
  exact tidy_nowP rfl ⟨rfl, rfl⟩
abbrev cntL (n : Int) : Blk := .box 118 [I n]
/-- Counting: an error, and how many there are. -/
abbrev CS := Int × Int
def addW (k : Int) (s : CS) : CS := if s.1 ≠ 0 then s else if 1000000 < s.2 + k then (3, s.2 + k) else (0, s.2 + k)
/-- How a call that counts ends. -/
def CntR (s : CS) (c : Nat) (H : List Blk) : AE → List Blk → Prop := fun e H' => e = (if s.1 = 0 then .ret (.tup []) else .pan (refL s.1)) ∧ H' = H.set c (cntL s.2)
theorem add_ok (n k : Int) (h0 : 0 ≤ n) (h1 : n ≤ 1000000) (h2 : 0 ≤ k) (h3 : k ≤ 2^50) (H : List Blk) (c : Nat) (hc : H[c]? = some (cntL n)) : ACalls Try.prog 65 [.bp c 0, I k] H (CntR (addW k (0, n)) c H) := by
  refine acalls_tidy (acalls_of_vc (hn := fun _ => false) (od := fun _ => none) Try.func65 rfl (by kernel_rfl) ?_)
  have hl := lt_of_get hc
  have w : IntKind.i64.wrap (n + k) = n + k := wrapI (by omega) (by omega)
  have hg : ∀ X, (H.set c X)[c]? = some X := fun X => by simp [hl]
  have hu : ∀ X : Int, underH H.length H = true → underH (H.set c (cntL X)).length (H.set c (cntL X)) = true := fun X h => by rw [List.length_set]; exact underH_set h rfl
  have lv := fun H => leave_ok 3 H
  simp -dsimp [hc, w, hg]
  unfold addW
  simp only [ne_eq, not_true_eq_false, if_false]
  refine condVW_introD (fun h => ?_) (fun h => ?_)
  · simp -dsimp
    refine acallsW_of (lv _) ?_
    rintro _ _ ⟨rfl, rfl⟩
    simp -dsimp
    rw [if_pos h]
    have := tidy_toP (H := H) (H2 := H.set c (cntL (n + k))) (L := []) (R := CntR (3, n + k) c H) (r := refL 3) (by simp) (hu _) rfl ⟨rfl, rfl⟩
    simpa using this
  · simp -dsimp
    rw [if_neg h]
    have := tidy_to (H := H) (H2 := H.set c (cntL (n + k))) (L := []) (R := CntR (0, n + k) c H) (r := .tup []) (by simp) (hu _) rfl ⟨rfl, rfl⟩
    simpa using this
end Go.Proofs
namespace Go.Proofs
open Go.Mu
mutual
/-- What counting comes to behind a node, so deep. -/
def Lk.walk (deep : Nat) : Lk → CS → CS
  | .mk _ it _ subs, s => lkssGo (deep + 1) subs (addW (min (it.length : Int) 1000001) (addW 1 s))
def lksGo (deep : Nat) : List Lk → CS → CS
  | [], s => s
  | x :: l, s => lksGo deep l (x.walk deep s)
def lkssGo (deep : Nat) : List (List Lk) → CS → CS
  | [], s => s
  | a :: l, s => lkssGo deep l (if s.1 ≠ 0 then s else if 0 < a.length ∧ 512 < deep then (12, s.2) else lksGo deep a s)
end
def lksTop (deep : Nat) (l : List Lk) (s : CS) : CS := if s.1 ≠ 0 then s else if 0 < l.length ∧ 512 < deep then (12, s.2) else lksGo deep l s
theorem Lk.walk_eq (deep : Nat) (x : Lk) (s : CS) : x.walk deep s = lkssGo (deep + 1) x.subs (addW (min (x.items.length : Int) 1000001) (addW 1 s)) := by cases x; rw [Lk.walk]; rfl
theorem lkssGo_cons (deep : Nat) (a : List Lk) (l : List (List Lk)) (s : CS) : lkssGo deep (a :: l) s = lkssGo deep l (lksTop deep a s) := by rw [lkssGo]; rfl
theorem addW_keep (k : Int) {s : CS} (h : s.1 ≠ 0) : addW k s = s := if_pos h
theorem lksTop_keep (deep : Nat) (l : List Lk) {s : CS} (h : s.1 ≠ 0) : lksTop deep l s = s := if_pos h
theorem lkssGo_keep (deep : Nat) : ∀ (l : List (List Lk)) {s : CS}, s.1 ≠ 0 → lkssGo deep l s = s
  | [], s, h => by rw [lkssGo]
  | a :: l, s, h => by rw [lkssGo_cons, lksTop_keep _ _ h, lkssGo_keep deep l h]
theorem Lk.walk_keep (deep : Nat) (x : Lk) {s : CS} (h : s.1 ≠ 0) : x.walk deep s = s := by
  rw [Lk.walk_eq, addW_keep 1 h, addW_keep _ h, lkssGo_keep _ _ h]
theorem lksGo_keep (deep : Nat) : ∀ (l : List Lk) {s : CS}, s.1 ≠ 0 → lksGo deep l s = s
  | [], s, h => by rw [lksGo]
  | x :: l, s, h => by rw [lksGo, Lk.walk_keep _ _ h, lksGo_keep deep l h]
/-- Where nothing was left, there is not too much. -/
def Good (s : CS) : Prop := s.1 = 0 → 0 ≤ s.2 ∧ s.2 ≤ 1000000
theorem good_add {k : Int} (hk : 0 ≤ k) {s : CS} (h : Good s) : Good (addW k s) := by
  unfold addW
  split
  · exact h
  · rename_i h0
    have := h (by simpa using h0)
    split
    · intro h3; cases h3
    · intro _; simp only; omega
theorem good_go (m : Nat) : (∀ (l : List Lk), lksCount l ≤ m → ∀ deep s, Good s → Good (lksGo deep l s)) ∧ (∀ (l : List (List Lk)), lkssCount l ≤ m → ∀ deep s, Good s → Good (lkssGo deep l s)) := by
  induction m with
  | zero =>
    refine ⟨fun l hl deep s h => ?_, fun l hl deep s h => ?_⟩
    · have := lks_len l; obtain rfl : l = [] := List.eq_nil_of_length_eq_zero (by omega); rw [lksGo]; exact h
    · have := lkss_len l; obtain rfl : l = [] := List.eq_nil_of_length_eq_zero (by omega); rw [lkssGo]; exact h
  | succ m ih =>
    refine ⟨fun l => ?_, fun l => ?_⟩
    · induction l with
      | nil => intro _ deep s h; rw [lksGo]; exact h
      | cons x l ihl =>
        intro hl deep s h
        simp only [lksCount] at hl
        have hx := Lk.count_eq x
        rw [lksGo]
        refine ihl (by omega) deep _ ?_
        rw [Lk.walk_eq]
        exact ih.2 x.subs (by omega) _ _ (good_add (by omega) (good_add (by omega) h))
    · induction l with
      | nil => intro _ deep s h; rw [lkssGo]; exact h
      | cons a l ihl =>
        intro hl deep s h
        simp only [lkssCount] at hl
        rw [lkssGo]
        refine ihl (by omega) deep _ ?_
        split
        · exact h
        · split
          · intro h3; cases h3
          · exact ih.1 a (by omega) deep s h
theorem good_top (deep : Nat) (l : List Lk) {s : CS} (h : Good s) : Good (lksTop deep l s) := by
  unfold lksTop
  split
  · exact h
  · split
    · intro h3; cases h3
    · exact (good_go _).1 l (Nat.le_refl _) deep s h
theorem cntW {fid : FuncId} {args : List AV} {H : List Blk} {R : AE → List Blk → Prop} {w : Wit R} {s : CS} {c : Nat} (h : ACalls Try.prog fid args H (CntR s c H)) (hz : s.1 = 0 → R (.ret (.tup [])) (H.set c (cntL s.2))) (hn : s.1 ≠ 0 → R (.pan (refL s.1)) (H.set c (cntL s.2))) : ACallsW Try.prog fid args H R w := by
  refine acallsW_of h ?_
  rintro e H' ⟨rfl, rfl⟩
  by_cases h0 : s.1 = 0
  · rw [if_pos h0]; exact hz h0
  · rw [if_neg h0]; exact hn h0
theorem walk_ok (m : Nat) : ∀ (l : List Lk) (deep : Nat) (n : Int), lksCount l < m → lksCount l ≤ 2^40 → deep ≤ 2^41 → 0 ≤ n → n ≤ 1000000 → ∀ (H : List Blk) (c : Nat), H[c]? = some (cntL n) →
    ACalls Try.prog 80 [.bp c 0, Lk.sl l, I deep] H (CntR (lksTop deep l (0, n)) c H) := by
  induction m with
  | zero => intro l deep n h; omega
  | succ m ih =>
    intro l deep n hm hc hd hn0 hn1 H c hcb
    refine acalls_tidy (acalls_of_awp Try.func80 rfl (by kernel_rfl) ?_)
    have hlen := lks_len l
    have hcl := lt_of_get hcb
    obtain ⟨G, hG⟩ : ∃ G : Int → List Blk, G = fun n => H.set c (cntL n) := ⟨_, rfl⟩
    have hGe : ∀ n, G n = H.set c (cntL n) := fun n => by rw [hG]
    have hG0 : H = G n := by rw [hGe, set_same hcb]
    have hGc : ∀ n L, (G n ++ L)[c]? = some (cntL n) := fun n L => by rw [hGe]; exact m1_get hcl _ _
    have hGs : ∀ n k L, (G n ++ L).set c (cntL k) = G k ++ L := fun n k L => by rw [hGe, hGe]; exact m1_set hcl _ _ _
    have hGl : ∀ n, (G n).length = H.length := fun n => by rw [hGe]; simp
    have hu : ∀ n, underH H.length H = true → underH (G n).length (G n) = true := fun n h => by rw [hGl, hGe]; exact underH_set h rfl
    obtain ⟨F, hF⟩ : ∃ F, F = lksTop deep l (0, n) := ⟨_, rfl⟩
    rw [← hF]
    have endP : ∀ (s : CS) L, s = F → s.1 ≠ 0 → Tidy H (CntR F c H) (.pan (refL s.1)) (G s.2 ++ L) := fun s L hs h0 => by
      subst hs
      exact tidy_toP (by rw [hGl]; exact Nat.le_refl _) (hu _) rfl ⟨by rw [if_neg h0], hGe _⟩
    have end0 : ∀ k L, ((0, k) : CS) = F → Tidy H (CntR F c H) (.ret (.tup [])) (G k ++ L) := fun k L hs => by
      subst hs
      exact tidy_to (by rw [hGl]; exact Nat.le_refl _) (hu _) rfl ⟨rfl, hGe _⟩
    have hGc0 : ∀ n, (G n)[c]? = some (cntL n) := fun n => by simpa using hGc n []
    rw [lksTop, if_neg (by simp)] at hF
    clear hG
    have lv := fun H => leave_ok 12 H
    -- too deep
    refine awp_cut (fun _ => false) (fun _ => none) (fun f H' => G n = H' ∧ f 0 = .bp c 0 ∧ f 1 = Lk.sl l ∧ f 2 = I deep ∧ lksGo deep l (0, n) = F ∧ (l = [] ∨ deep ≤ 512)) (by kernel_rfl) ?_ ?_
    · simp -dsimp
      refine guardVW_introTD (fun h1 => ?_) (fun h1 => ?_)
      · simp -dsimp [h1]
        refine condVW_introD (fun h2 => ?_) (fun h2 => ?_)
        · simp -dsimp
          refine acallsW_of (lv _) ?_
          rintro _ _ ⟨rfl, rfl⟩
          simp -dsimp
          rw [if_pos ⟨by omega, by omega⟩] at hF
          have := endP (12, n) [] hF.symm (show (12 : Int) ≠ 0 by decide)
          rw [List.append_nil] at this
          simpa [← hG0] using this
        · simp -dsimp
          rw [if_neg (by omega)] at hF
          exact ⟨hG0.symm, hF.symm, .inr (by omega)⟩
      · simp -dsimp [h1]
        rw [if_neg (by omega)] at hF
        exact ⟨hG0.symm, hF.symm, .inl (List.eq_nil_of_length_eq_zero (by omega))⟩
    rintro g _ ⟨rfl, g0, g1, g2, hF', hdl⟩
    clear hF
    refine awp_cut (fun _ => false) (fun _ => none) (fun f H' => G n = H' ∧ f 0 = .bp c 0 ∧ f 2 = I deep ∧ f 18 = Lk.sl l ∧ f 19 = I l.length ∧ f 20 = I 0) (by kernel_rfl) ?_ ?_
    · simp -dsimp [g0, g1, g2]
    clear g g0 g1 g2
    rintro g _ ⟨rfl, g0, g2, g18, g19, g20⟩
    refine awp_block ?_
    refine awp_loopI (fun (i : Nat) f H' => (∃ k L, H' = G k ++ L ∧ 0 ≤ k ∧ k ≤ 1000000 ∧ lksGo deep (l.drop i) (0, k) = F) ∧ f 0 = .bp c 0 ∧ f 2 = I deep ∧ f 18 = Lk.sl l ∧ f 19 = I l.length ∧ f 20 = I i ∧ i ≤ l.length) (fun i => l.length - i) 0 ⟨⟨n, [], by simp, hn0, hn1, hF'⟩, g0, g2, g18, g19, g20, by omega⟩ ?_
    clear g g0 g2 g18 g19 g20 hF'
    rintro i g _ ⟨⟨k, L, rfl, hk0, hk1, hinv⟩, g0, g2, g18, g19, g20, hi⟩
    refine awp_cut (fun _ => false) (fun _ => none) (fun f H' => H' = G k ++ L ∧ f 0 = .bp c 0 ∧ f 2 = I deep ∧ f 18 = Lk.sl l ∧ f 19 = I l.length ∧ f 20 = I i ∧ f 21 = Bo (decide ((i : Int) < l.length))) (by kernel_rfl) ?_ ?_
    · simp -dsimp [g0, g2, g18, g19, g20]
    clear g g0 g2 g18 g19 g20
    rintro g _ ⟨rfl, g0, g2, g18, g19, g20, g21⟩
    refine awp_cut (fun _ => false) (fun _ => none) (fun f H' => H' = G k ++ L ∧ f 0 = .bp c 0 ∧ f 2 = I deep ∧ f 18 = Lk.sl l ∧ f 19 = I l.length ∧ f 20 = I i ∧ i < l.length) (by kernel_rfl) ?_ ?_
    · simp -dsimp [g21]
      refine condVW_introD (fun hlt => ?_) (fun hlt => ?_)
      · simp -dsimp [g0, g2, g18, g19, g20]
        omega
      · rw [drop_end (by omega), lksGo] at hinv
        simp -dsimp
        exact end0 _ _ hinv
    clear g g0 g2 g18 g19 g20 g21
    rintro g _ ⟨rfl, g0, g2, g18, g19, g20, hlt⟩
    have hd512 : deep ≤ 512 := by
      rcases hdl with rfl | h
      · simp at hlt
      · exact h
    rw [drop_cons hlt, lksGo, Lk.walk_eq] at hinv
    have hgx := lks_get hlt
    have hcx := Lk.count_eq l[i]
    have hlx : l[i]? = some l[i] := List.getElem?_eq_getElem hlt
    obtain ⟨x, hx⟩ : ∃ x, x = l[i] := ⟨_, rfl⟩
    rw [← hx] at hinv hgx hcx hlx
    clear hx
    have hlss := lkss_len x.subs
    have hit : x.items.length ≤ 2^40 := by omega
    refine awp_cutA (fun f H' => (∃ k L, H' = G k ++ L ∧ 0 ≤ k ∧ k ≤ 1000000 ∧ lksGo deep (l.drop (i + 1)) (0, k) = F) ∧ f 0 = .bp c 0 ∧ f 2 = I deep ∧ f 18 = Lk.sl l ∧ f 19 = I l.length ∧ f 20 = I i) ?_ ?_
    rotate_left
    · clear g g0 g2 g18 g19 g20
      rintro g _ ⟨⟨k, L, rfl, hk0, hk1, hinv⟩, g0, g2, g18, g19, g20⟩
      refine awp_all (fun _ => false) (fun _ => none) (by kernel_rfl) ?_
      simp -dsimp [g0, g2, g18, g19, g20]
      exact ⟨i + 1, by omega, ⟨k, ⟨L, rfl⟩, hk0, hk1, hinv⟩, wrapS (by omega), by omega⟩
    refine awp_block ?_
    refine awp_cut (fun _ => false) (fun _ => none) (fun f H' => H' = G k ++ (L ++ [.box 67 x.cells]) ∧ f 0 = .bp c 0 ∧ f 2 = I deep ∧ f 18 = Lk.sl l ∧ f 19 = I l.length ∧ f 20 = I i ∧ f 7 = .bp (H.length + L.length) 0) (by kernel_rfl) ?_ ?_
    · simp -dsimp [g0, g2, g18, g19, g20, hlx, hGl]
    clear g g0 g2 g18 g19 g20
    rintro g _ ⟨rfl, g0, g2, g18, g19, g20, g7⟩
    obtain ⟨V, hV⟩ : ∃ V : Int → List Blk, V = fun k => G k ++ (L ++ [.box 67 x.cells]) := ⟨_, rfl⟩
    have hVe : ∀ k, V k = G k ++ (L ++ [.box 67 x.cells]) := fun k => by rw [hV]
    have hVx : ∀ k, (V k)[H.length + L.length]? = some (.box 67 x.cells) := fun k => by
      rw [hVe, ← hGl k, List.getElem?_append_right (by omega), Nat.add_sub_cancel_left, List.getElem?_append_right (Nat.le_refl _), Nat.sub_self]; rfl
    have hVc : ∀ k, (V k)[c]? = some (cntL k) := fun k => by rw [hVe]; exact hGc _ _
    have hVs : ∀ k j, (V k).set c (cntL j) = V j := fun k j => by rw [hVe, hGs, hVe]
    have endV : ∀ (s : CS), s = F → s.1 ≠ 0 → Tidy H (CntR F c H) (.pan (refL s.1)) (V s.2) := fun s hs h0 => by rw [hVe]; exact endP _ _ hs h0
    rw [← hVe]
    simp only [Lk.cells_eq] at hVx
    have c1 := fun H h => add_ok k 1 hk0 hk1 (by omega) (by omega) H c h
    -- one node
    refine awp_cut (fun _ => false) (fun _ => none) (fun f H' => V (k + 1) = H' ∧ f 0 = .bp c 0 ∧ f 2 = I deep ∧ f 18 = Lk.sl l ∧ f 19 = I l.length ∧ f 20 = I i ∧ f 7 = .bp (H.length + L.length) 0 ∧ addW 1 (0, k) = (0, k + 1) ∧ k + 1 ≤ 1000000) (by kernel_rfl) ?_ ?_
    · simp -dsimp [g0, g2, g18, g19, g20, g7]
      refine cntW (c1 _ (hVc k)) (fun hz => ?_) (fun hz => ?_)
      · have ha : addW 1 (0, k) = (0, k + 1) ∧ k + 1 ≤ 1000000 := by
          unfold addW at hz ⊢
          simp only [ne_eq, not_true_eq_false, if_false] at hz ⊢
          split at hz
          · cases hz
          · rename_i h; rw [if_neg h]; exact ⟨rfl, by omega⟩
        rw [ha.1, hVs]
        simp -dsimp [g0, g2, g18, g19, g20, g7]
        first
          | exact ha
          | exact ha.2
      · rw [addW_keep _ hz, lkssGo_keep _ _ hz, lksGo_keep _ _ hz] at hinv
        rw [hVs]
        simp -dsimp
        exact endV _ hinv hz
    clear g g0 g2 g18 g19 g20 g7
    rintro g _ ⟨rfl, g0, g2, g18, g19, g20, g7, ha, hk2⟩
    rw [ha] at hinv
    obtain ⟨q, hq⟩ : ∃ q : Int, q = min (x.items.length : Int) 1000001 := ⟨_, rfl⟩
    rw [← hq] at hinv
    have hqe : (if 1000001 < (x.items.length : Int) then (1000001 : Int) else x.items.length) = q := by rw [hq]; split <;> omega
    have c2 := fun H h => add_ok (k + 1) q (by omega) hk2 (by omega) (by omega) H c h
    -- its items
    refine awp_cut (fun _ => false) (fun _ => none) (fun f H' => V (k + 1 + q) = H' ∧ f 0 = .bp c 0 ∧ f 2 = I deep ∧ f 18 = Lk.sl l ∧ f 19 = I l.length ∧ f 20 = I i ∧ f 7 = .bp (H.length + L.length) 0 ∧ addW q (0, k + 1) = (0, k + 1 + q) ∧ k + 1 + q ≤ 1000000) (by kernel_rfl) ?_ ?_
    · simp -dsimp [g0, g2, g18, g19, g20, g7, hVx, hqe]
      refine cntW (c2 _ (hVc _)) (fun hz => ?_) (fun hz => ?_)
      · have ha : addW q (0, k + 1) = (0, k + 1 + q) ∧ k + 1 + q ≤ 1000000 := by
          unfold addW at hz ⊢
          simp only [ne_eq, not_true_eq_false, if_false] at hz ⊢
          split at hz
          · cases hz
          · rename_i h; rw [if_neg h]; exact ⟨rfl, by omega⟩
        rw [ha.1, hVs]
        simp -dsimp [g0, g2, g18, g19, g20, g7]
        first
          | exact ha
          | exact ha.2
      · rw [lkssGo_keep _ _ hz, lksGo_keep _ _ hz] at hinv
        rw [hVs]
        simp -dsimp
        exact endV _ hinv hz
    clear g g0 g2 g18 g19 g20 g7
    rintro g _ ⟨rfl, g0, g2, g18, g19, g20, g7, hb, hk3⟩
    rw [hb] at hinv
    have hq0 : 0 ≤ q := by omega
    obtain ⟨k3, hk3e⟩ : ∃ k3, k3 = k + 1 + q := ⟨_, rfl⟩
    rw [← hk3e] at hinv hk3 ⊢
    have hk30 : 0 ≤ k3 := by omega
    clear hb ha c1 c2 hq hqe hk3e
    have w2 : IntKind.i64.wrap ((deep : Int) + 1) = (deep : Int) + 1 := wrapI (by omega) (by omega)
    refine awp_all (fun _ => false) (fun _ => none) (by kernel_rfl) ?_
    simp -dsimp [g0, g2, g18, g19, g20, g7, hVx]
    refine loop_rule (hn := fun _ => false) (od := fun _ => none) (fun (j : Nat) f H' => (∃ k, H' = V k ∧ 0 ≤ k ∧ k ≤ 1000000 ∧ lksGo deep (l.drop (i + 1)) (lkssGo (deep + 1) (x.subs.drop j) (0, k)) = F) ∧ f 0 = .bp c 0 ∧ f 2 = I deep ∧ f 18 = Lk.sl l ∧ f 19 = I l.length ∧ f 20 = I i ∧ f 33 = Lk.sls x.subs ∧ f 34 = I x.subs.length ∧ f 35 = I j ∧ j ≤ x.subs.length) (fun j => x.subs.length - j) (by kernel_rfl) 0 (by simp [g0, g2, g18, g19, g20]; exact ⟨k3, rfl, hk30, hk3, hinv⟩) ?_
    clear g g0 g2 g18 g19 g20 g7 hinv
    rintro j g _ ⟨⟨k4, rfl, hk40, hk41, hinv⟩, g0, g2, g18, g19, g20, g33, g34, g35, hj⟩
    simp -dsimp [g0, g2, g18, g19, g20, g33, g34, g35]
    refine condVW_introD (fun hjt => ?_) (fun hjt => ?_)
    · rw [drop_cons hjt, lkssGo_cons] at hinv
      have hgs := lkss_get hjt
      have hls : x.subs[j]? = some x.subs[j] := List.getElem?_eq_getElem hjt
      obtain ⟨a, ha⟩ : ∃ a, a = x.subs[j] := ⟨_, rfl⟩
      rw [← ha] at hinv hgs hls
      clear ha
      have cr := ih a (deep + 1) k4 (by omega) (by omega) (by omega) hk40 hk41 (V k4) c (hVc _)
      rw [show ((deep + 1 : Nat) : Int) = (deep : Int) + 1 from rfl] at cr
      have hgd := good_top (deep + 1) a (s := (0, k4)) (fun _ => ⟨hk40, hk41⟩)
      simp -dsimp [g0, g2, g18, g19, g20, g33, g34, g35, hls, w2]
      refine cntW cr (fun hz => ?_) (fun hz => ?_)
      · rw [hVs]
        have hp := hgd hz
        have he : lksTop (deep + 1) a (0, k4) = (0, (lksTop (deep + 1) a (0, k4)).2) := Prod.ext hz rfl
        rw [he] at hinv
        simp -dsimp [g0, g2, g18, g19, g20, g33, g34, g35]
        exact ⟨j + 1, by omega, ⟨_, rfl, hp.1, hp.2, hinv⟩, wrapS (by omega), by omega⟩
      · rw [lkssGo_keep _ _ hz, lksGo_keep _ _ hz] at hinv
        rw [hVs]
        simp -dsimp
        exact endV _ hinv hz
    · rw [drop_end hjt, lkssGo] at hinv
      simp -dsimp [g0, g2, g18, g19, g20]
      exact ⟨k4, ⟨_, hVe k4⟩, hk40, hk41, hinv⟩
end Go.Proofs
namespace Go.Proofs
open Go.Mu
theorem lrec_none (t : Nat) (H : List Blk) : RecSem Try.prog ⟨118, [.bp t 0], none⟩ (.v .nilIface) H (fun H' => H' = H) := by
  refine recSem_of_vc (hn := fun _ => false) (od := fun _ => none) Try.func118 rfl rfl (by kernel_rfl) ?_
  show vcC _ _ _ _ _ (recQ _) _ _ _
  simp -dsimp
theorem lrec_some (t : Nat) (H : List Blk) (n e : Int) (h : H[t]? = some (.box 27 [I n])) : RecSem Try.prog ⟨118, [.bp t 0], none⟩ (refL e) H (fun H' => ∃ L, H' = H.set t (.box 27 [I e]) ++ L) := by
  refine recSem_of_vc (hn := fun _ => false) (od := fun _ => none) Try.func118 rfl rfl (by kernel_rfl) ?_
  show vcC _ _ _ _ _ (recQ _) _ _ _
  have hl := lt_of_get h
  have hL := fun L => get_app_old h L
  have hs : ∀ L X, (H ++ L).set t X = H.set t X ++ L := fun L X => by rw [List.set_append, if_pos hl]
  simp -dsimp [assertV, refL, h, hL, hs]
/-- What is done, and the error by which it was left; memory may be other memory then. -/
theorem lkept_ok (g : FuncId) (cap : List AV) (E : Int) (H H2 : List Blk) (hok : okFn Try.prog g = true) (hl : H2.length = H.length) (hu : underH H.length H = true → underH H2.length H2 = true)
    (hg : ∀ L, ACalls Try.prog g cap (H ++ L) (fun e H' => e = (if E = 0 then .ret (.tup []) else .pan (refL E)) ∧ ∃ L', H' = H2 ++ L ++ L')) : ACalls Try.prog 70 [.fn (.func g) [] cap] H (fun e H' => e = .ret (I E) ∧ H' = H2) := by
  refine acalls_tidy (acalls_of_vcD (hn := fun _ => false) (od := fun _ => none) Try.func70 rfl (by kernel_rfl) ?_)
  have fin : ∀ L, Tidy H (fun e H' => e = .ret (I E) ∧ H' = H2) (.ret (I E)) (H2 ++ L) := fun L => tidy_to (by rw [hl]; exact Nat.le_refl _) hu rfl ⟨rfl, rfl⟩
  simp -dsimp [hok]
  refine acallsW_of (hg _) ?_
  rintro _ _ ⟨rfl, L', rfl⟩
  by_cases hz : E = 0
  · rw [if_pos hz]
    subst hz
    have hb : ∀ X : Blk, (H2 ++ X :: L')[H.length]? = some X := fun X => by rw [← hl]; simp
    have hs : ∀ X Y : Blk, (H2 ++ X :: L').set H.length Y = H2 ++ Y :: L' := fun X Y => by rw [← hl]; simp
    simp -dsimp [hb, hs]
    refine recW_of (lrec_none _ _) ?_
    rintro H' rfl
    simp -dsimp [hb]
    exact fin (.box 27 [I 0] :: L')
  · rw [if_neg hz]
    have hb : ∀ X : Blk, (H2 ++ X :: L')[H.length]? = some X := fun X => by rw [← hl]; simp
    have hs : ∀ X Y : Blk, (H2 ++ X :: L').set H.length Y = H2 ++ Y :: L' := fun X Y => by rw [← hl]; simp
    have hb2 : ∀ (X : Blk) L, (H2 ++ X :: (L' ++ L))[H.length]? = some X := fun X L => by rw [← hl]; simp
    simp -dsimp [hb]
    refine recW_of (lrec_some _ _ 0 _ (by rw [hb])) ?_
    rintro H' ⟨L, rfl⟩
    rw [hs]
    simp -dsimp [hb2]
    exact fin (.box 27 [I E] :: (L' ++ L))
/-- Are these a loop's? -/
def loopB (over : Bool) : List Lk → Bool
  | [] => true
  | x :: l => if x.kind = 1 then (if over then false else loopB over l)
      else if x.kind = 2 then (if over then false else if !x.taken && (decide (x.subs.length = 1) && decide (0 < (x.subs.headD []).length)) then false else loopB (!x.taken) l)
      else false
theorem loop_ok (l : List Lk) (hl : lksCount l ≤ 2^40) (H : List Blk) : ACalls Try.prog 121 [Lk.sl l] H (fun e H' => e = .ret (Bo (loopB false l)) ∧ H' = H) := by
  refine acalls_tidy (acalls_of_vc (hn := fun _ => false) (od := fun _ => none) Try.func121 rfl (by kernel_rfl) ?_)
  have hlen := lks_len l
  obtain ⟨E, hE⟩ : ∃ E, E = loopB false l := ⟨_, rfl⟩
  rw [← hE]
  have fin : ∀ b L, b = E → Tidy H (fun e H' => e = .ret (Bo E) ∧ H' = H) (.ret (Bo b)) (H ++ L) := fun b L h => by rw [h]; exact tidy_same rfl ⟨rfl, rfl⟩
  simp -dsimp
  refine loop_rule (hn := fun _ => false) (od := fun _ => none) (fun (i : Nat) f H' => (∃ L, H' = H ++ L) ∧ f 6 = Lk.sl l ∧ f 7 = I l.length ∧ f 8 = I i ∧ i ≤ l.length ∧ ∃ o, f 3 = Bo o ∧ loopB o (l.drop i) = E) (fun i => l.length - i) (by kernel_rfl) 0 (by simp [hE]) ?_
  clear hE
  rintro i g _ ⟨⟨L, rfl⟩, g6, g7, g8, hi, o, g3, hinv⟩
  simp -dsimp [g3, g6, g7, g8]
  refine condVW_introD (fun hlt => ?_) (fun hlt => ?_)
  · rw [drop_cons hlt, loopB] at hinv
    have hg := lks_get hlt
    have hcx := Lk.count_eq l[i]
    have hlx : l[i]? = some l[i] := List.getElem?_eq_getElem hlt
    obtain ⟨x, hx⟩ : ∃ x, x = l[i] := ⟨_, rfl⟩
    rw [← hx] at hinv hg hcx hlx
    clear hx
    have hls := lkss_len x.subs
    simp -dsimp [g3, g6, g7, g8, hlx]
    refine condVW_introE (fun hk => ?_) (fun hk hkb _ => ?_)
    · rw [if_pos hk] at hinv
      simp -dsimp [g3, g6, g7, g8]
      cases o
      · simp -dsimp [g3, g6, g7, g8]
        exact ⟨i + 1, by omega, wrapS (by omega), by omega, by simpa using hinv⟩
      · simp -dsimp
        exact fin _ _ (by simpa using hinv)
    · rw [if_neg hk] at hinv
      simp -dsimp [g3, g6, g7, g8]
      refine condVW_introE (fun hk2 => ?_) (fun hk2 hk2b _ => ?_)
      · rw [if_pos hk2] at hinv
        simp -dsimp [g3, g6, g7, g8]
        cases o
        · simp only [Bool.false_eq_true, if_false] at hinv
          simp -dsimp [g3, g6, g7, g8]
          cases ht : x.taken
          · rw [ht] at hinv
            simp -dsimp [g3, g6, g7, g8]
            refine guardVW_introTE (fun h1 => ?_) (fun h1 h1b _ => ?_)
            · obtain ⟨a, ha⟩ : ∃ a, x.subs = [a] := by
                match hh : x.subs, h1 with
                | [a], _ => exact ⟨a, rfl⟩
                | [], h1 => simp at h1
                | _ :: _ :: _, h1 => simp at h1; omega
              rw [ha] at hinv
              simp -dsimp [g3, g6, g7, g8, ha]
              refine condVW_introD (fun h2 => ?_) (fun h2 => ?_)
              · simp -dsimp
                exact fin _ _ (by simpa [show 0 < a.length by omega] using hinv)
              · simp -dsimp [g3, g6, g7, g8]
                have ha0 : a = [] := List.eq_nil_of_length_eq_zero (by omega)
                subst ha0
                exact ⟨i + 1, by omega, wrapS (by omega), by omega, by simpa using hinv⟩
            · have h1n : decide (x.subs.length = 1) = false := decide_eq_false (fun e => h1 (by rw [e]; rfl))
              rw [h1n] at hinv
              simp -dsimp [g3, g6, g7, g8, h1b]
              exact ⟨i + 1, by omega, wrapS (by omega), by omega, by simpa using hinv⟩
          · rw [ht] at hinv
            simp -dsimp [g3, g6, g7, g8]
            exact ⟨i + 1, by omega, wrapS (by omega), by omega, by simpa using hinv⟩
        · simp -dsimp
          exact fin _ _ (by simpa using hinv)
      · rw [if_neg hk2] at hinv
        simp -dsimp
        exact fin _ _ hinv
  · rw [drop_end hlt, loopB] at hinv
    simp -dsimp
    exact fin _ _ hinv
end Go.Proofs
namespace Go.Proofs
open Go.Mu
/-- Has a node what its kind has? -/
def fitK (kind : Int) (items : List Int) (taken : Bool) (subs : List (List Lk)) : Bool :=
  if kind = 1 then !(decide (0 < subs.length) || taken)
  else if kind = 4 then !(decide (0 < items.length) || taken)
  else if kind = 3 then !(decide (0 < items.length) || taken) && decide (subs.length = 1) && loopB false (subs.headD [])
  else if kind = 5 then !taken && decide (subs.length = 1)
  else if kind = 2 then decide (subs.length = 1)
  else false
mutual
def Lk.fits : Lk → Bool
  | .mk k i t s => fitK k i t s && lkssFits s
def lksFits : List Lk → Bool
  | [] => true
  | x :: l => x.fits && lksFits l
def lkssFits : List (List Lk) → Bool
  | [] => true
  | a :: l => lksFits a && lkssFits l
end
theorem Lk.fits_eq (x : Lk) : x.fits = (fitK x.kind x.items x.taken x.subs && lkssFits x.subs) := by cases x; rw [Lk.fits]; rfl
theorem fits_ok (m : Nat) : ∀ (l : List Lk), lksCount l < m → lksCount l ≤ 2^40 → ∀ (H : List Blk),
    ACalls Try.prog 81 [Lk.sl l] H (fun e H' => e = .ret (Bo (lksFits l)) ∧ H' = H) := by
  induction m with
  | zero => intro l h; omega
  | succ m ih =>
    intro l hm hc H
    refine acalls_tidy (acalls_of_awp Try.func81 rfl (by kernel_rfl) ?_)
    have hlen := lks_len l
    obtain ⟨E, hE⟩ : ∃ E, E = lksFits l := ⟨_, rfl⟩
    rw [← hE]
    have fin : ∀ b L, b = E → Tidy H (fun e H' => e = .ret (Bo E) ∧ H' = H) (.ret (Bo b)) (H ++ L) := fun b L h => by rw [h]; exact tidy_same rfl ⟨rfl, rfl⟩
    refine awp_cut (fun _ => false) (fun _ => none) (fun f H' => H = H' ∧ f 0 = Lk.sl l) (by kernel_rfl) ?_ ?_
    · simp -dsimp
    rintro g _ ⟨rfl, g0⟩
    refine awp_cutA (fun f H' => (∃ L, H' = H ++ L) ∧ E = true) ?_ ?_
    rotate_left
    · clear g g0
      rintro g _ ⟨⟨L, rfl⟩, h⟩
      refine awp_all (fun _ => false) (fun _ => none) (by kernel_rfl) ?_
      simp -dsimp
      exact fin _ _ h.symm
    refine awp_cut (fun _ => false) (fun _ => none) (fun f H' => H = H' ∧ f 7 = Lk.sl l ∧ f 8 = I l.length ∧ f 9 = I 0) (by kernel_rfl) ?_ ?_
    · simp -dsimp [g0]
    clear g g0
    rintro g _ ⟨rfl, g7, g8, g9⟩
    refine awp_block ?_
    refine awp_loopI (fun (i : Nat) f H' => (∃ L, H' = H ++ L) ∧ f 7 = Lk.sl l ∧ f 8 = I l.length ∧ f 9 = I i ∧ i ≤ l.length ∧ lksFits (l.drop i) = E) (fun i => l.length - i) 0 ⟨⟨[], by simp⟩, g7, g8, g9, by omega, by rw [hE]; simp⟩ ?_
    clear g g7 g8 g9 hE
    rintro i g _ ⟨⟨L, rfl⟩, g7, g8, g9, hi, hinv⟩
    refine awp_cut (fun _ => false) (fun _ => none) (fun f H' => H' = H ++ L ∧ f 7 = Lk.sl l ∧ f 8 = I l.length ∧ f 9 = I i ∧ f 10 = Bo (decide ((i : Int) < l.length))) (by kernel_rfl) ?_ ?_
    · simp -dsimp [g7, g8, g9]
    clear g g7 g8 g9
    rintro g _ ⟨rfl, g7, g8, g9, g10⟩
    refine awp_cut (fun _ => false) (fun _ => none) (fun f H' => H' = H ++ L ∧ f 7 = Lk.sl l ∧ f 8 = I l.length ∧ f 9 = I i ∧ i < l.length) (by kernel_rfl) ?_ ?_
    · simp -dsimp [g10]
      refine condVW_introD (fun hlt => ?_) (fun hlt => ?_)
      · simp -dsimp [g7, g8, g9]
        omega
      · rw [drop_end (by omega), lksFits] at hinv
        simp -dsimp
        exact hinv.symm
    clear g g7 g8 g9 g10
    rintro g _ ⟨rfl, g7, g8, g9, hlt⟩
    rw [drop_cons hlt, lksFits, Lk.fits_eq] at hinv
    have hgx := lks_get hlt
    have hcx := Lk.count_eq l[i]
    have hlx : l[i]? = some l[i] := List.getElem?_eq_getElem hlt
    obtain ⟨x, hx⟩ : ∃ x, x = l[i] := ⟨_, rfl⟩
    rw [← hx] at hinv hgx hcx hlx
    clear hx
    have hls := lkss_len x.subs
    refine awp_cutA (fun f H' => (∃ L, H' = H ++ L) ∧ f 7 = Lk.sl l ∧ f 8 = I l.length ∧ f 9 = I i ∧ lksFits (l.drop (i + 1)) = E) ?_ ?_
    rotate_left
    · clear g g7 g8 g9
      rintro g _ ⟨⟨L, rfl⟩, g7, g8, g9, hinv⟩
      refine awp_all (fun _ => false) (fun _ => none) (by kernel_rfl) ?_
      simp -dsimp [g7, g8, g9]
      exact ⟨i + 1, by omega, wrapS (by omega), by omega, hinv⟩
    refine awp_block ?_
    obtain ⟨V, hV⟩ : ∃ V, V = H ++ (L ++ [.box 67 x.cells]) := ⟨_, rfl⟩
    refine awp_cut (fun _ => false) (fun _ => none) (fun f H' => V = H' ∧ f 7 = Lk.sl l ∧ f 8 = I l.length ∧ f 9 = I i ∧ f 4 = .bp (H.length + L.length) 0) (by kernel_rfl) ?_ ?_
    · simp -dsimp [g7, g8, g9, hlx, hV]
    clear g g7 g8 g9
    rintro g _ ⟨rfl, g7, g8, g9, g4⟩
    have hVx : V[H.length + L.length]? = some (.box 67 x.cells) := by rw [hV]; simp
    have finV : ∀ b, b = E → Tidy H (fun e H' => e = .ret (Bo E) ∧ H' = H) (.ret (Bo b)) V := fun b h => by rw [hV]; exact fin _ _ h
    have hVH : ∃ L', V = H ++ L' := ⟨_, hV⟩
    clear hV
    simp only [Lk.cells_eq] at hVx
    -- its kind
    refine awp_cut (fun _ => false) (fun _ => none) (fun f H' => V = H' ∧ f 7 = Lk.sl l ∧ f 8 = I l.length ∧ f 9 = I i ∧ f 4 = .bp (H.length + L.length) 0 ∧ fitK x.kind x.items x.taken x.subs = true) (by kernel_rfl) ?_ ?_
    · have bad : fitK x.kind x.items x.taken x.subs = false → false = E := fun h => by rw [← hinv, h]; rfl
      replace hinv := Hid.mk hinv
      replace fin := Hid.mk fin
      replace ih := Hid.mk ih
      replace hcx := Hid.mk hcx
      replace hgx := Hid.mk hgx
      have cl := fun (h1 : x.subs.length = 1) H => loop_ok (x.subs.headD []) (by
        match hh : x.subs, h1 with
        | [a], _ => have := hcx.out; have := hgx.out; rw [hh, lkssCount, lkssCount] at *; simp only [List.headD_cons]; omega) H
      have hsub : x.subs.length = 1 → x.subs[0]? = some (x.subs.headD []) := fun h1 => by
        match hh : x.subs, h1 with
        | [a], _ => rfl
      have good : fitK x.kind x.items x.taken x.subs = true → fitK x.kind x.items x.taken x.subs = true := fun h => h
      simp -dsimp [g7, g8, g9, g4, hVx]
      refine condVW_introE (fun k1 => ?_) (fun k1 k1b _ => ?_)
      · have hfk : fitK x.kind x.items x.taken x.subs = !(decide (0 < x.subs.length) || x.taken) := by unfold fitK; rw [if_pos k1]
        rw [hfk] at bad
        simp -dsimp [g7, g8, g9, g4, hVx]
        refine guardVW_introFD (fun h1 => ?_) (fun h1 => ?_)
        · simp -dsimp [g7, g8, g9, g4, hVx, h1]
          exact finV _ (bad (by rw [decide_eq_true (by omega)]; rfl))
        · simp -dsimp [g7, g8, g9, g4, hVx, h1]
          rw [decide_eq_false (by omega)] at bad hfk
          cases ht : x.taken
          · rw [ht] at hfk
            simp -dsimp [g7, g8, g9, g4]
            exact hfk
          · rw [ht] at bad
            simp -dsimp
            exact finV _ (bad rfl)
      simp -dsimp [g7, g8, g9, g4, hVx]
      refine condVW_introE (fun k4 => ?_) (fun k4 k4b _ => ?_)
      · have hfk : fitK x.kind x.items x.taken x.subs = !(decide (0 < x.items.length) || x.taken) := by unfold fitK; rw [if_neg k1, if_pos k4]
        rw [hfk] at bad
        simp -dsimp [g7, g8, g9, g4, hVx]
        refine guardVW_introFD (fun h1 => ?_) (fun h1 => ?_)
        · simp -dsimp [g7, g8, g9, g4, hVx, h1]
          exact finV _ (bad (by rw [decide_eq_true (by omega)]; rfl))
        · simp -dsimp [g7, g8, g9, g4, hVx, h1]
          rw [decide_eq_false (by omega)] at bad hfk
          cases ht : x.taken
          · rw [ht] at hfk
            simp -dsimp [g7, g8, g9, g4]
            exact hfk
          · rw [ht] at bad
            simp -dsimp
            exact finV _ (bad rfl)
      simp -dsimp [g7, g8, g9, g4, hVx]
      refine condVW_introE (fun k3 => ?_) (fun k3 k3b _ => ?_)
      · have hfk : fitK x.kind x.items x.taken x.subs = (!(decide (0 < x.items.length) || x.taken) && decide (x.subs.length = 1) && loopB false (x.subs.headD [])) := by unfold fitK; rw [if_neg k1, if_neg k4, if_pos k3]
        rw [hfk] at bad
        simp -dsimp [g7, g8, g9, g4, hVx]
        refine guardVW_introFD (fun h1 => ?_) (fun h1 => ?_)
        · simp -dsimp [g7, g8, g9, g4, hVx, h1]
          exact finV _ (bad (by rw [decide_eq_true (show 0 < x.items.length by omega)]; rfl))
        simp -dsimp [g7, g8, g9, g4, hVx, h1]
        rw [decide_eq_false (show ¬(0 < x.items.length) by omega)] at bad hfk
        cases ht : x.taken
        · rw [ht] at bad hfk
          simp -dsimp [g7, g8, g9, g4, hVx, h1, ht]
          refine guardVW_introFNE (fun h2 h2a h2b => ?_) (fun h2 => ?_)
          · simp -dsimp [g7, g8, g9, g4, hVx, h1, ht, h2a, h2b]
            exact finV _ (bad (by rw [decide_eq_false (show ¬(x.subs.length = 1) by omega)]; rfl))
          have h2n : x.subs.length = 1 := by omega
          rw [decide_eq_true h2n] at bad hfk
          obtain ⟨sb, hsb⟩ : ∃ a, x.subs = [a] := by
            match hh : x.subs, h2n with
            | [a], _ => exact ⟨a, rfl⟩
          have cl1 := cl h2n
          rw [hsb] at bad hfk cl1
          simp only [List.headD_cons] at bad hfk cl1
          simp -dsimp [g7, g8, g9, g4, hVx, h1, ht, h2, hsb]
          refine acallsW_det (cl1 _) ?_
          cases hlb : loopB false sb
          · rw [hlb] at bad
            simp -dsimp [g7, g8, g9, g4, h2, hsb]
            exact finV _ (bad rfl)
          · rw [hlb] at hfk
            simp -dsimp [g7, g8, g9, g4, h2, hsb]
            exact hfk
        · rw [ht] at bad
          simp -dsimp [g7, g8, g9, g4, hVx, h1, ht]
          exact finV _ (bad rfl)
      simp -dsimp [g7, g8, g9, g4, hVx]
      refine condVW_introE (fun k5 => ?_) (fun k5 k5b _ => ?_)
      · have hfk : fitK x.kind x.items x.taken x.subs = (!x.taken && decide (x.subs.length = 1)) := by unfold fitK; rw [if_neg k1, if_neg k4, if_neg k3, if_pos k5]
        rw [hfk] at bad
        simp -dsimp [g7, g8, g9, g4, hVx]
        cases ht : x.taken
        · rw [ht] at bad hfk
          simp -dsimp [g7, g8, g9, g4, hVx, ht]
          refine condVW_introNE (fun h2 h2a _ => ?_) (fun h2 => ?_)
          · simp -dsimp
            exact finV _ (bad (by rw [decide_eq_false (show ¬(x.subs.length = 1) by omega)]; rfl))
          · rw [decide_eq_true (show x.subs.length = 1 by omega)] at hfk
            simp -dsimp [g7, g8, g9, g4]
            exact hfk
        · rw [ht] at bad
          simp -dsimp
          exact finV _ (bad rfl)
      simp -dsimp [g7, g8, g9, g4, hVx]
      refine condVW_introE (fun k2 => ?_) (fun k2 k2b _ => ?_)
      · have hfk : fitK x.kind x.items x.taken x.subs = decide (x.subs.length = 1) := by unfold fitK; rw [if_neg k1, if_neg k4, if_neg k3, if_neg k5, if_pos k2]
        rw [hfk] at bad
        simp -dsimp [g7, g8, g9, g4, hVx]
        refine condVW_introNE (fun h2 h2a _ => ?_) (fun h2 => ?_)
        · simp -dsimp
          exact finV _ (bad (decide_eq_false (by omega)))
        · rw [decide_eq_true (show x.subs.length = 1 by omega)] at hfk
          simp -dsimp [g7, g8, g9, g4]
          exact hfk
      · have hfk : fitK x.kind x.items x.taken x.subs = false := by unfold fitK; rw [if_neg k1, if_neg k4, if_neg k3, if_neg k5, if_neg k2]
        simp -dsimp
        exact finV _ (bad hfk)
    clear g g7 g8 g9 g4
    rintro g _ ⟨rfl, g7, g8, g9, g4, hfk⟩
    rw [hfk, Bool.true_and] at hinv
    refine awp_all (fun _ => false) (fun _ => none) (by kernel_rfl) ?_
    simp -dsimp [g7, g8, g9, g4, hVx]
    refine loop_rule (hn := fun _ => false) (od := fun _ => none) (fun (j : Nat) f H' => V = H' ∧ f 7 = Lk.sl l ∧ f 8 = I l.length ∧ f 9 = I i ∧ f 70 = Lk.sls x.subs ∧ f 71 = I x.subs.length ∧ f 72 = I j ∧ j ≤ x.subs.length ∧ (lkssFits (x.subs.drop j) && lksFits (l.drop (i + 1))) = E) (fun j => x.subs.length - j) (by kernel_rfl) 0 (by simp [g7, g8, g9]; simpa using hinv) ?_
    clear g g7 g8 g9 g4 hinv
    rintro j g _ ⟨rfl, g7, g8, g9, g70, g71, g72, hj, hinv⟩
    simp -dsimp [g7, g8, g9, g70, g71, g72]
    refine condVW_introD (fun hjt => ?_) (fun hjt => ?_)
    · rw [drop_cons hjt, lkssFits] at hinv
      have hgs := lkss_get hjt
      have hlsj : x.subs[j]? = some x.subs[j] := List.getElem?_eq_getElem hjt
      obtain ⟨a, ha⟩ : ∃ a, a = x.subs[j] := ⟨_, rfl⟩
      rw [← ha] at hinv hgs hlsj
      clear ha
      have cr := ih a (by omega) (by omega) V
      simp -dsimp [g7, g8, g9, g70, g71, g72, hlsj]
      refine acallsW_det cr ?_
      cases hfa : lksFits a
      · rw [hfa] at hinv
        simp -dsimp
        exact finV _ hinv
      · rw [hfa] at hinv
        simp -dsimp [g7, g8, g9, g70, g71, g72]
        exact ⟨j + 1, by omega, wrapS (by omega), by omega, by simpa using hinv⟩
    · rw [drop_end hjt, lkssFits] at hinv
      simp -dsimp [g7, g8, g9]
      exact ⟨hVH, hinv⟩
/-- Why leakage may not be. -/
def whyE (l : List Lk) : Int := if (lksTop 1 l (0, 0)).1 ≠ 0 then (lksTop 1 l (0, 0)).1 else if lksFits l then 0 else 2
theorem whyC_ok (l : List Lk) (hl : lksCount l ≤ 2^40) (H : List Blk) (t u v : Nat) (ht : H[t]? = some (.box 116 [.bp u 0])) (hv : H[v]? = some (.box 58 [Lk.sl l])) (hu : H[u]? = some (cntL 0)) : ACalls Try.prog 119 [.bp t 0, .bp v 0] H (CntR (lksTop 1 l (0, 0)) u H) := by
  refine acalls_tidy (acalls_of_vc (hn := fun _ => false) (od := fun _ => none) Try.func119 rfl (by kernel_rfl) ?_)
  have c := walk_ok _ l 1 0 (Nat.lt_succ_self _) hl (by omega) (by omega) (by omega) H u hu
  rw [show ((1 : Nat) : Int) = 1 from rfl] at c
  have hul := lt_of_get hu
  simp -dsimp [ht, hv]
  refine cntW c (fun hz => ?_) (fun hz => ?_)
  · simp -dsimp
    have := tidy_to (H := H) (H2 := H.set u (cntL (lksTop 1 l (0, 0)).2)) (L := []) (R := CntR (lksTop 1 l (0, 0)) u H) (r := .tup []) (by simp) (fun h => by rw [List.length_set]; exact underH_set h rfl) rfl ⟨by rw [if_pos hz], rfl⟩
    simpa using this
  · simp -dsimp
    have := tidy_toP (H := H) (H2 := H.set u (cntL (lksTop 1 l (0, 0)).2)) (L := []) (R := CntR (lksTop 1 l (0, 0)) u H) (r := refL (lksTop 1 l (0, 0)).1) (by simp) (fun h => by rw [List.length_set]; exact underH_set h rfl) rfl ⟨by rw [if_neg hz], rfl⟩
    simpa using this
theorem why_ok (l : List Lk) (hl : lksCount l ≤ 2^40) (H : List Blk) : ACalls Try.prog 75 [Lk.sl l] H (fun e H' => e = .ret (I (whyE l)) ∧ H' = H) := by
  refine acalls_tidy (acalls_of_vc (hn := fun _ => false) (od := fun _ => none) Try.func75 rfl (by kernel_rfl) ?_)
  have cf := fun H => fits_ok _ l (Nat.lt_succ_self _) hl H
  obtain ⟨s, hs⟩ : ∃ s, s = lksTop 1 l (0, 0) := ⟨_, rfl⟩
  have hwy : whyE l = if s.1 ≠ 0 then s.1 else if lksFits l then 0 else 2 := by rw [hs]; rfl
  obtain ⟨E, hE⟩ : ∃ E, E = whyE l := ⟨_, rfl⟩
  rw [← hE]
  rw [hwy] at hE
  have hst : ∀ X, (H ++ [.box 58 [Lk.sl l], cntL 0, .box 116 [.bp (H.length + 1) 0]]).set (H.length + 1) X = H ++ [.box 58 [Lk.sl l], X, .box 116 [.bp (H.length + 1) 0]] := fun X => by simp
  have ck := lkept_ok 119 [.bp (H.length + 2) 0, .bp H.length 0] s.1 (H ++ [.box 58 [Lk.sl l], cntL 0, .box 116 [.bp (H.length + 1) 0]]) (H ++ [.box 58 [Lk.sl l], cntL s.2, .box 116 [.bp (H.length + 1) 0]]) (by kernel_rfl) (by simp) (fun h => by rw [← hst, List.length_set]; exact underH_set h rfl) (fun L => by
      have := whyC_ok l hl ((H ++ [.box 58 [Lk.sl l], cntL 0, .box 116 [.bp (H.length + 1) 0]]) ++ L) (H.length + 2) (H.length + 1) H.length (by simp) (by simp) (by simp)
      rw [← hs] at this
      refine this.mono ?_
      rintro e H' ⟨rfl, rfl⟩
      refine ⟨rfl, [], ?_⟩
      simp)
  simp -dsimp
  refine acallsW_of ck ?_
  rintro _ _ ⟨rfl, rfl⟩
  have fin : ∀ (b : Int) L, b = E → Tidy H (fun e H' => e = .ret (I E) ∧ H' = H) (.ret (I b)) (H ++ L) := fun b L h => by rw [h]; exact tidy_same rfl ⟨rfl, rfl⟩
  simp -dsimp
  refine condVW_introNE (fun h1 h1a h1b => ?_) (fun h1 => ?_)
  · rw [if_pos h1] at hE
    simp -dsimp
    exact fin _ _ hE.symm
  · rw [if_neg (fun h => h h1)] at hE
    simp -dsimp
    refine acallsW_det (cf _) ?_
    cases hf : lksFits l
    · rw [hf] at hE
      simp -dsimp
      exact fin _ _ hE.symm
    · rw [hf] at hE
      simp -dsimp
      exact fin _ _ hE.symm
end Go.Proofs
