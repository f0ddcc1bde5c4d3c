/- A region whose order of evaluation is drawn, in which operations that change something may come in many orders. -/
import Derived.Test.YteoimifnfkpdeaaGreatFwUtoME2
import Derived.Test.YteoimifnfkpdeaaGreatG1toL8
set_option linter.unusedVariables false
set_option linter.unusedSimpArgs false
set_option maxHeartbeats 4000000
set_option maxRecDepth 100000
namespace Go.Mu
inductive FT where
  | lin (p : OPlan)
  | fork (pre : List Nat) (ats : FT)
  | alt (i : Nat) (late : List Nat) (t more : FT)
  | none
section
variable {P : Program} {n : Nat} {pu : Nat → Bool} {ops : Array Oper} {Q : AQ}
theorem vx_impK {tab : List (Nat × Oper × Nat)} (htab : TabOk ops tab) {hf : Oper → Bool} (hsm : ∀ (i : Nat) (o : Oper), ops[i]? = some o → smallO n ops o = true)
    (hlt : ∀ (j : Nat) (o : Oper), ops[j]? = some o → ∀ e ∈ o.after, Region.binds .any e = true → e.on < j) {ds : List ADef} {K : Fr → List Blk → Prop} {fuel : Nat} {done rem L : List Nat} {listed : Array Bool} {f fa : Fr} {H : List Blk} {i0 : Nat} {lt : List Nat} {oi : Oper}
    (hi : SInv P pu hf ops done rem L listed f fa H) (hir : i0 ∈ Region.ready .any ops listed) (ho0 : ops[i0]? = some oi) (hpu : pu i0 = false) (hrd : readyB ops rem i0 = true)
    (hop2 : (done.all fun j => (maskOf tab i0).testBit j || !pu j || (match ops[j]? with | none => false | some oj => pu j && !lookB ops oj oi && (lt.contains j || hf oj))) = true)
    (hrest : ∀ (L : List Nat) (listed : Array Bool) (f fa : Fr) (H : List Blk), SInv P pu hf ops (i0 :: done) (rem.erase i0) L listed f fa H → (rem.erase i0).length + L.length ≤ fuel → K f H → AA P pu ops Q ds fuel listed fa H) (hfu : rem.length + L.length ≤ fuel + 1)
    (hv : StepB P ops oi f H ds Q (fun f' H' => (∀ j ∈ lt, ∀ oj, ops[j]? = some oj → ∃ r, StepD P ops oj f' H' r ∧ ∀ d, oj.dst = some d → f' d = r) ∧ K f' H')) :
    StepB P ops oi fa H ds Q (fun f' H' => AA P pu ops Q ds fuel (listed.setIfInBounds i0 true) f' H') := by
  have hrd' := hrd
  simp only [readyB, Bool.and_eq_true, List.contains_iff_mem] at hrd'
  obtain ⟨hi0r, hedges⟩ := hrd'
  have hi0l := hi.remlt _ hi0r
  have hlen0 := List.length_erase_of_mem hi0r
  have hpos0 := List.length_pos_of_mem hi0r
  rw [ho0] at hedges
  simp only at hedges
  simp only [List.all_eq_true, Bool.or_eq_true] at hop2
  have hed : ∀ e ∈ oi.after, Region.binds .any e = true → e.on ∉ rem := by
    intro e he hb hm
    have := List.all_eq_true.1 hedges e (by simpa using he)
    simp only [hb, Bool.not_true, Bool.false_or, Bool.and_eq_true, Bool.not_eq_true'] at this
    rw [List.contains_iff_mem.2 hm] at this; exact absurd this.1 (by simp)
  have hdn : ∀ i, i < ops.size → (i ∈ i0 :: done ↔ i ∉ rem.erase i0) := by
    intro i hil
    rw [hi.rnodup.mem_erase_iff, List.mem_cons, hi.dn i hil]
    by_cases h : i = i0
    · subst h; simp
    · simp [h]
  have hdc : ∀ i o, ops[i]? = some o → i ∉ rem.erase i0 → ∀ e ∈ o.after, Region.binds .any e = true → e.on ∉ rem.erase i0 := by
    intro i o ho hnm e he hb hm
    have hm' := List.mem_of_mem_erase hm
    by_cases h : i = i0
    · subst h; rw [ho0] at ho; cases ho; exact hed e he hb hm'
    · refine hi.dclosed i o ho (fun hir => hnm (hi.rnodup.mem_erase_iff.2 ⟨h, hir⟩)) e he hb hm'
  obtain ⟨m1, o, m2, m3⟩ := mem_ready.1 hir
  have hil := (Array.getElem?_eq_some_iff.1 m2).1
  have hag : ∀ t ∈ oi.looksAt ops, f t = fa t := by
    intro t ht
    refine (hi.agree t fun k hk ok hok hd => ?_).symm
    obtain ⟨_, o2, ho2, _, g1, _⟩ := hi.good k hk
    rw [hok] at ho2; cases ho2
    have hre := g1 i0 oi t ho0 hd ht
    have hkl := reach_listed hi.closed hre fun o3 h3 e he hb => by rw [m2] at h3; cases h3; exact m3 e he hb
    have := (hi.un k (Array.getElem?_eq_some_iff.1 hok).1).2 (.inr hk)
    rw [hkl] at this; cases this
  rw [ho0] at m2; cases m2
  have hmask : maskFr ops f = maskFr ops fa := by
    funext t
    unfold maskFr
    split
    · rfl
    · rename_i hno
      refine (hi.agree t fun j hj o ho hd => hno ?_).symm
      rw [Array.any_eq_true']
      exact ⟨o, Array.mem_of_getElem? ho, by simp [hd]⟩
  refine stepB_congr (hsm _ _ ho0) hag hmask (fun r H' hk => ?_) hv
  obtain ⟨hlate, hv'⟩ := hk
  refine hrest L _ (updO f oi.dst r) (updO fa oi.dst r) H' ?_ (by omega) hv'
  refine ⟨by simp [hi.size], fun k hkl => ?_, fun k h => hi.remlt k (List.mem_of_mem_erase h), closed_set hi.closed hir, hdn, hdc, hi.nodup, hi.rnodup.erase i0, fun j hj => ?_, fun t ht => ?_⟩
  · rw [getD_set (by rw [hi.size]; exact hi0l), hi.rnodup.mem_erase_iff]
    by_cases h : k = i0
    · subst h; simp; exact fun h => (hi.good k h).1 hi0r
    · rw [if_neg h, hi.un k hkl]; simp [h]
  · obtain ⟨hjr, o, ho, g1, g2, g3, r', h1, h2, h3⟩ := hi.good j hj
    have hjl := (Array.getElem?_eq_some_iff.1 ho).1
    have hjd : j ∈ done := (hi.dn j hjl).2 hjr
    have hnre : (maskOf tab i0).testBit j ≠ true := fun h => by
      have := reach_listed hi.closed (maskOf_spec htab h) fun o' ho' e he hb => m3 e (by rw [ho0] at ho'; cases ho'; exact he) hb
      have h2 := (hi.un j hjl).2 (.inr hj)
      rw [this] at h2; cases h2
    have hcl := (hop2 j hjd).resolve_left (fun h => h.elim hnre fun h => by rw [(hi.good j hj).2.choose_spec.2.1] at h; cases h)
    rw [ho] at hcl
    simp only [Bool.and_eq_true, Bool.or_eq_true, Bool.not_eq_true'] at hcl
    obtain ⟨⟨_, hlook⟩, hlf⟩ := hcl
    have hun : ∀ t ∈ o.looksAt ops, f t = updO f oi.dst r t := by
      intro t ht
      refine (updO_of_not (l := o.looksAt ops) (fun d hd hm => ?_) t ht).symm
      simp only [lookB, hd] at hlook
      rw [List.contains_iff_mem.2 hm] at hlook; cases hlook
    have hdst : ∀ d, o.dst = some d → updO f oi.dst r d = f d := by
      intro d hd
      have hne : oi.dst ≠ some d := g3 i0 oi d ho0 (fun e => hjr (e ▸ hi0r)) hd
      cases hd0 : oi.dst with
      | none => rfl
      | some d0 => simp only [updO, upd]; rw [if_neg]; rintro rfl; exact hne hd0
    refine ⟨fun h => hjr (List.mem_of_mem_erase h), o, ho, g1, g2, g3, ?_⟩
    by_cases hh : hf o = true
    · exact ⟨r', stepD_congr (hsm _ _ ho) hun (h2 hh H'), fun h H'' => stepD_congr (hsm _ _ ho) hun (h2 h H''), fun d hd => by rw [hdst d hd]; exact h3 d hd⟩
    · have hjlate : j ∈ lt := List.contains_iff_mem.1 (hlf.resolve_right hh)
      obtain ⟨r2, q1, q2⟩ := hlate j hjlate o ho
      exact ⟨r2, q1, fun h => absurd h hh, q2⟩
  · cases hd0 : oi.dst with
    | none => exact hi.agree t ht
    | some d0 =>
      simp only [updO, upd]
      by_cases htd : t = d0
      · rw [if_pos htd, if_pos htd]
      · rw [if_neg htd, if_neg htd]; exact hi.agree t ht
def planP (pu : Nat → Bool) (ops : Array Oper) (tab : List (Nat × Oper × Nat)) (k : List Nat → List Nat → Bool) : List Nat → List Nat → List Nat → Bool
  | done, rem, [] => k done rem
  | done, rem, i :: rest => readyB ops rem i && pu i && (match ops[i]? with | none => false | some oi => aloneB ops tab i oi) && planP pu ops tab k (i :: done) (rem.erase i) rest
def VP (P : Program) (hf : Oper → Bool) (ops : Array Oper) (k : Fr → List Blk → Prop) : List Nat → Fr → List Blk → Prop
  | [], f, H => k f H
  | i :: rest, f, H => match ops[i]? with
    | none => False
    | some o => ∃ r, StepD P ops o f H r ∧ (hf o = true → ∀ H', StepD P ops o f H' r) ∧ VP P hf ops k rest (updO f o.dst r) H
theorem vp_sound {tab : List (Nat × Oper × Nat)} (htab : TabOk ops tab) {hf : Oper → Bool} (hsm : ∀ (i : Nat) (o : Oper), ops[i]? = some o → smallO n ops o = true)
    (hlt : ∀ (j : Nat) (o : Oper), ops[j]? = some o → ∀ e ∈ o.after, Region.binds .any e = true → e.on < j) {ds : List ADef} {kb : List Nat → List Nat → Bool} {kv : Fr → List Blk → Prop}
    (hk : ∀ (fuel : Nat) (done rem L : List Nat) (listed : Array Bool) (f fa : Fr) (H : List Blk), kb done rem = true → SInv P pu hf ops done rem L listed f fa H → rem.length + L.length ≤ fuel → kv f H → AA P pu ops Q ds fuel listed fa H) :
    ∀ (p : List Nat) (fuel : Nat) (done rem L : List Nat) (listed : Array Bool) (f fa : Fr) (H : List Blk), planP pu ops tab kb done rem p = true → SInv P pu hf ops done rem L listed f fa H → rem.length + L.length ≤ fuel →
    VP P hf ops kv p f H → AA P pu ops Q ds fuel listed fa H := by
  intro p
  induction p with
  | nil => exact hk
  | cons i0 p ihp =>
    intro fuel done rem L listed f fa H hc hi hfu hv
    simp only [planP, Bool.and_eq_true] at hc
    obtain ⟨⟨⟨hrd, hpu⟩, hop⟩, hrest⟩ := hc
    have hrd' := hrd
    simp only [readyB, Bool.and_eq_true, List.contains_iff_mem] at hrd'
    obtain ⟨hi0r, hedges⟩ := hrd'
    have hi0l := hi.remlt _ hi0r
    have ho0 : ops[i0]? = some (ops[i0]'hi0l) := Array.getElem?_eq_getElem hi0l
    generalize ops[i0]'hi0l = oi at ho0
    have hlen0 := List.length_erase_of_mem hi0r
    have hpos0 := List.length_pos_of_mem hi0r
    rw [ho0] at hop hedges
    simp only at hop hedges
    simp only [VP, ho0] at hv
    have hed : ∀ e ∈ oi.after, Region.binds .any e = true → e.on ∉ rem := by
      intro e he hb hm
      have := List.all_eq_true.1 hedges e (by simpa using he)
      simp only [hb, Bool.not_true, Bool.false_or, Bool.and_eq_true, Bool.not_eq_true'] at this
      rw [List.contains_iff_mem.2 hm] at this; exact absurd this.1 (by simp)
    have hdn : ∀ i, i < ops.size → (i ∈ i0 :: done ↔ i ∉ rem.erase i0) := by
      intro i hil
      rw [hi.rnodup.mem_erase_iff, List.mem_cons, hi.dn i hil]
      by_cases h : i = i0
      · subst h; simp
      · simp [h]
    have hdc : ∀ i o, ops[i]? = some o → i ∉ rem.erase i0 → ∀ e ∈ o.after, Region.binds .any e = true → e.on ∉ rem.erase i0 := by
      intro i o ho hnm e he hb hm
      have hm' := List.mem_of_mem_erase hm
      by_cases h : i = i0
      · subst h; rw [ho0] at ho; cases ho; exact hed e he hb hm'
      · refine hi.dclosed i o ho (fun hir => hnm (hi.rnodup.mem_erase_iff.2 ⟨h, hir⟩)) e he hb hm'
    obtain ⟨r, hr1, hr2, hv'⟩ := hv
    have hal1 : ∀ k ok d, ops[k]? = some ok → oi.dst = some d → d ∈ ok.looksAt ops → Reach ops k i0 := by
      intro k ok d hok hd hm
      simp only [aloneB, hd, List.all_eq_true, List.mem_range] at hop
      have := hop k (Array.getElem?_eq_some_iff.1 hok).1
      rw [hok] at this
      simp only [Bool.and_eq_true, Bool.or_eq_true, Bool.not_eq_true'] at this
      rcases this.1 with h | h
      · rw [List.contains_iff_mem.2 hm] at h; cases h
      · exact maskOf_spec htab h
    have hal2 : ∀ k ok d, ops[k]? = some ok → k ≠ i0 → oi.dst = some d → ok.dst ≠ some d := by
      intro k ok d hok hne hd
      simp only [aloneB, hd, List.all_eq_true, List.mem_range] at hop
      have := hop k (Array.getElem?_eq_some_iff.1 hok).1
      rw [hok] at this
      simp only [Bool.and_eq_true, Bool.or_eq_true, beq_iff_eq, bne_iff_ne] at this
      exact this.2.resolve_left hne
    have hun : ∀ o : Oper, (∃ j, ops[j]? = some o ∧ ¬ Reach ops j i0) → ∀ t ∈ o.looksAt ops, f t = updO f oi.dst r t := by
      rintro o ⟨j, hj, hnr⟩ t ht
      refine (updO_of_not (l := o.looksAt ops) (fun d hd hm => hnr (hal1 j o d hj hd hm)) t ht).symm
    refine ihp fuel (i0 :: done) (rem.erase i0) (i0 :: L) listed (updO f oi.dst r) fa H hrest ?_ (by simp; omega) hv'
    have hi0L : i0 ∉ L := fun h => (hi.good i0 h).1 hi0r
    refine ⟨hi.size, fun i hil => ?_, fun i h => hi.remlt i (List.mem_of_mem_erase h), hi.closed, hdn, hdc, List.nodup_cons.2 ⟨hi0L, hi.nodup⟩, hi.rnodup.erase i0, fun j hj => ?_, fun t ht => ?_⟩
    · rw [hi.un i hil, hi.rnodup.mem_erase_iff, List.mem_cons]
      by_cases h : i = i0
      · subst h; simp [hi0r]
      · simp [h]
    · rcases List.mem_cons.1 hj with rfl | hj
      · refine ⟨fun h => (hi.rnodup.mem_erase_iff.1 h).1 rfl, oi, ho0, hpu, hal1, hal2, r, ?_, ?_, ?_⟩
        · exact stepD_congr (hsm _ _ ho0) (hun oi ⟨_, ho0, fun h => Nat.lt_irrefl _ (reach_lt hlt h)⟩) hr1
        · exact fun h H' => stepD_congr (hsm _ _ ho0) (hun oi ⟨_, ho0, fun h => Nat.lt_irrefl _ (reach_lt hlt h)⟩) (hr2 h H')
        · intro d hd; simp [updO, upd, hd]
      · obtain ⟨hjr, o, ho, g1, g2, g3, r', h1, h2, h3⟩ := hi.good j hj
        have hnr : ¬ Reach ops j i0 := fun h => reach_closed (S := fun k => k ∉ rem) (fun i o ho hn e he hb => hi.dclosed i o ho hn e he hb) h hjr hi0r
        refine ⟨fun h => hjr (List.mem_of_mem_erase h), o, ho, g1, g2, g3, r', stepD_congr (hsm _ _ ho) (hun o ⟨j, ho, hnr⟩) h1, fun h H' => stepD_congr (hsm _ _ ho) (hun o ⟨j, ho, hnr⟩) (h2 h H'), fun d hd => ?_⟩
        have hne : oi.dst ≠ some d := g3 i0 oi d ho0 (fun e => hjr (e ▸ hi0r)) hd
        rw [← h3 d hd]
        cases hd0 : oi.dst with
        | none => rfl
        | some d0 => simp only [updO, upd]; rw [if_neg]; rintro rfl; exact hne hd0
    · have e1 : fa t = f t := hi.agree t fun j hj o ho => ht j (List.mem_cons_of_mem _ hj) o ho
      rw [e1]
      have e2 := ht i0 (by simp) oi ho0
      cases hd0 : oi.dst with
      | none => rfl
      | some d0 => simp only [updO, upd]; rw [if_neg]; rintro rfl; exact e2 hd0
variable {hn : Nat → Bool}
def vcT (P : Program) (hn : Nat → Bool) (ops : Array Oper) (Q : AQ) (ds : List ADef) : FT → Fr → List Blk → Prop
  | .lin p, f, H => vcX P hn ops Q ds p f H
  | .fork pre ats, f, H => vcX P hn ops (fun x f' H' ds' => match x with | .normal => vcT P hn ops Q ds ats f' H' | x => Q x f' H' ds') ds (pre.map fun i => (i, [])) f H
  | .alt i lt t more, f, H => vcL P hn true ops (opsAt ops [i]) (thenQ (fun f' H' _ => lateV P hn ops f' H' (opsAt ops lt) ∧ vcT P hn ops Q ds t f' H') Q) f H ds ∧ vcT P hn ops Q ds more f H
  | .none, _, _ => True
theorem vp_of_vcX {ops : Array Oper} {Q : AQ} {ds : List ADef} (hnd : ops.all noDefer = true) {tab : List (Nat × Oper × Nat)} {kb : List Nat → List Nat → Bool} {kv kv' : Fr → List Blk → Prop} :
    ∀ (p done rem : List Nat) (f : Fr) (H : List Blk), planP (puOf (pureOp hn) ops) ops tab kb done rem p = true → (∀ done rem f H, kb done rem = true → kv' f H → kv f H) → vcX P hn ops (fun x f' H' ds' => match x with | .normal => kv' f' H' | x => Q x f' H' ds') ds (p.map fun i => (i, [])) f H → VP P hfreeOp ops kv p f H
  | [], done, rem, f, H, hc, hk, h => hk done rem f H hc h
  | i :: p, done, rem, f, H, hc, hk, h => by
    simp only [planP, Bool.and_eq_true] at hc
    obtain ⟨⟨⟨hrd, hpu⟩, hop⟩, hrest⟩ := hc
    simp only [List.map_cons, vcX] at h
    simp only [VP]
    cases ho : ops[i]? with
    | none => rw [ho] at hop; cases hop
    | some o =>
      have hndo : noDefer o = true := Array.all_eq_true_iff_forall_mem.1 hnd _ (Array.mem_of_getElem? ho)
      have hone : opsAt ops [i] = [o] := by simp [opsAt, ho]
      rw [hone] at h
      obtain ⟨r, h1, h2, h3⟩ := one_det hndo (pureOf_pu ho hpu) h
      exact ⟨r, h1, h2, vp_of_vcX hnd p _ _ _ _ hrest hk h3.2⟩
end
end Go.Mu
namespace Go.Mu
open Go.RowKit (Below)
section
variable {P : Program} {n : Nat} {Q : AQ}
theorem tidy_giveG {H G L : List Blk} {R : AE → List Blk → Prop} {r : AV} (hu : underH G.length G = true) (j sz : Nat) (t : TypeId) (es : List (List AV)) (hj : L[j]? = some (.row t sz es)) (hz : es.flatten.all AV.frzB = true)
    (h : Tidy H R (.ret (r.frz (G.length + j) sz es)) (G ++ (L.map (Blk.frz (G.length + j) sz es)).set j .gone)) : Tidy H R (.ret r) (G ++ L) := by
  obtain ⟨H1, r1, g, rest⟩ := h
  rw [← frzH_app j hu] at g
  exact ⟨H1, r1, .step _ _ (G.length + j) sz t es _ _ (by rw [List.getElem?_append_right (by omega)]; simpa using hj) hz g, rest⟩
theorem awp_giveRow {c : Code} {f : Fr} {N L : List Blk} (hu : underH N.length N = true) (j sz : Nat) (t : TypeId) (es : List (List AV)) (hj : L[j]? = some (.row t sz es)) (hz : es.flatten.all AV.frzB = true)
    (h : ∀ L' f', (∀ s, f' s = (f s).frz (N.length + j) sz es) → L'.length = L.length → (∀ i x, i ≠ j → L[i]? = some x → x.under N.length = true → L'[i]? = some x) → AWP P n c Q f' (N ++ L') []) : AWP P n c Q f (N ++ L) [] := by
  refine awp_give (N.length + j) sz t es (by rw [List.getElem?_append_right (by omega)]; simpa using hj) hz ?_
  rw [frzH_app j hu]
  refine h _ _ (fun _ => rfl) (by simp) ?_
  intro i x hij hx hux
  rw [List.getElem?_set_ne (Ne.symm hij), List.getElem?_map, hx]
  simp only [Option.map_some]
  rw [frzB_id (Nat.le_add_right _ _) x hux]
def M2 (H : List Blk) (c : Nat) (X o t : Blk) (L : List Blk) : List Blk := H.set c X ++ o :: t :: L
variable {H : List Blk} {c : Nat}
end
end Go.Mu
namespace Go.Mu
def hrow (h : Option Nat) (n : Nat) : AV := match h with | none => .v (.slice none 0 0) | some k => .hs k 0 n n
def cutS (h : Option Nat) (m n : Nat) : AV := match h with | none => .v (.slice none 0 0) | some k => .hs k 0 m n
theorem cutS_all (h : Option Nat) (n : Nat) : cutS h n n = hrow h n := by cases h <;> rfl
structure RowAt' (t : TypeId) (sz : Nat) (M : List Blk) (h : Option Nat) (es : List (List AV)) : Prop where
  row : ∀ k, h = some k → M[k]? = some (.row t sz es)
  nil : h = none → es = []
structure Own (t : TypeId) (sz : Nat) (B M : List Blk) (h : Option Nat) (es : List (List AV)) : Prop where
  pre : ∃ L, M = B ++ L
  row : ∀ k, h = some k → M[k]? = some (.row t sz es)
  nil : h = none → es = []
  new : ∀ k, h = some k → B.length ≤ k
variable {t sz n : Nat} {B M : List Blk} {h : Option Nat} {es : List (List AV)}
theorem Own.nil0 (t sz : Nat) (B L : List Blk) : Own t sz B (B ++ L) none [] := ⟨⟨L, rfl⟩, fun _ h => (by cases h), fun _ => rfl, fun _ h => (by cases h)⟩
theorem Own.nil1 (t sz : Nat) (B : List Blk) : Own t sz B B none [] := ⟨⟨[], by simp⟩, fun _ h => (by cases h), fun _ => rfl, fun _ h => (by cases h)⟩
theorem Own.app (o : Own t sz B M h es) (L : List Blk) : Own t sz B (M ++ L) h es := by
  obtain ⟨⟨L0, rfl⟩, r, nl, nw⟩ := o
  exact ⟨⟨L0 ++ L, by simp⟩, fun k hk => by have := r k hk; rw [List.getElem?_append_left (List.getElem?_eq_some_iff.1 this).1]; exact this, nl, nw⟩
theorem Own.old (o : Own t sz B M h es) {i : Nat} {b : Blk} (hb : B[i]? = some b) : M[i]? = some b := by
  obtain ⟨L, rfl⟩ := o.pre
  rw [List.getElem?_append_left (List.getElem?_eq_some_iff.1 hb).1]; exact hb
theorem Own.ex (o : Own t sz B M h es) (he : 0 < es.length) : ∃ k, h = some k ∧ M[k]? = some (.row t sz es) ∧ B.length ≤ k := by
  cases h with
  | none => have := o.nil rfl; subst this; simp at he
  | some k => exact ⟨k, rfl, o.row k rfl, o.new k rfl⟩
theorem Own.less {B0 B1 : List Blk} (o : Own t sz (B0 ++ B1) M h es) : Own t sz B0 M h es := by
  obtain ⟨⟨L, rfl⟩, r, nl, nw⟩ := o
  exact ⟨⟨B1 ++ L, by simp⟩, r, nl, fun k hk => by have := nw k hk; simp at this; omega⟩
structure Stp (M M' : List Blk) (h h' : Option Nat) : Prop where
  len : M.length ≤ M'.length
  get : ∀ i, i < M.length → h ≠ some i → M'[i]? = M[i]?
  new : h' = h ∨ ∃ i, h' = .some i ∧ M.length ≤ i
theorem Stp.refl (M : List Blk) (h : Option Nat) : Stp M M h h := ⟨Nat.le_refl _, fun _ _ _ => rfl, .inl rfl⟩
theorem Stp.old {M M' : List Blk} {h h' : Option Nat} (a : Stp M M' h h') {i : Nat} {b : Blk} (hi : M[i]? = .some b) (hn : h ≠ .some i) : M'[i]? = .some b := by rw [a.get i (List.getElem?_eq_some_iff.1 hi).1 hn]; exact hi
theorem ext_pre {B M : List Blk} (hl : B.length ≤ M.length) (hg : ∀ i, i < B.length → M[i]? = B[i]?) : ∃ L, M = B ++ L := by
  refine ⟨M.drop B.length, ?_⟩
  apply List.ext_getElem?
  intro i
  by_cases hi : i < B.length
  · rw [List.getElem?_append_left hi]; exact hg i hi
  · rw [List.getElem?_append_right (by omega), List.getElem?_drop]; congr 1; omega
theorem Own.step {M' : List Blk} {h' : Option Nat} {es' : List (List AV)} (o : Own t sz B M h es) (r : RowAt' t sz M' h' es') (s : Stp M M' h h') : Own t sz B M' h' es' := by
  obtain ⟨⟨L, rfl⟩, _, _, nw⟩ := o
  refine ⟨ext_pre (by have := s.len; simp at this; omega) (fun i hi => ?_), r.row, r.nil, fun k hk => ?_⟩
  · rw [s.get i (by simp; omega) (fun e => by have := nw i e; omega), List.getElem?_append_left hi]
  · rcases s.new with e | ⟨i, e, hi⟩
    · exact nw k (e ▸ hk)
    · rw [e] at hk; cases hk; simp at hi; omega
theorem Own.at' (o : Own t sz B M h es) : RowAt' t sz M h es := ⟨o.row, o.nil⟩
theorem app_at {ys : List (List AV)} {sl : TypeId × Nat × List Value × Nat} {K : AV → List Blk → Prop} {w : Wit K} (hr : RowAt' t sz M h es) (hn : n = es.length) (h1 : sl.1 = t) (h2 : sl.2.1 = sz) (hb : (es.length + ys.length) * sl.2.2.2 ≤ 140737488355328) (h63 : es.length + ys.length ≤ 9223372036854775807)
    (k : ∀ h' M', RowAt' t sz M' h' (es ++ ys) → Stp M M' h h' → K (hrow h' (es ++ ys).length) M') : appendVW M sl (hrow h n) ys K w := by
  subst hn
  obtain ⟨s1, s2, s3, s4⟩ := sl
  simp only at h1 h2 hb
  subst h1 h2
  cases h with
  | none =>
    have := hr.nil rfl
    subst this
    simp only [List.length_nil, Nat.zero_add] at hb
    simp only [hrow]
    refine appendVW_nil (by simpa using hb) (by simp at h63 ⊢; omega) (fun hy => ?_) (fun hy => ?_)
    · subst hy
      exact k none M ⟨fun _ h => (by cases h), fun _ => rfl⟩ (.refl _ _)
    · have := k (.some M.length) (M ++ [.row s1 s2 ys]) ⟨fun k hk => (by cases hk; simp), fun h => (by cases h)⟩ ⟨by simp, fun i hi _ => List.getElem?_append_left hi, .inr ⟨_, rfl, Nat.le_refl _⟩⟩
      simpa [hrow] using this
  | some i =>
    have q3 := hr.row i rfl
    have hil := (List.getElem?_eq_some_iff.1 q3).1
    simp only [hrow]
    refine appendVW_hs (es := es) q3 rfl rfl (by simpa using hb) h63 ?_
    have := k (.some i) (M.set i (.row s1 s2 (es ++ ys))) ⟨fun k hk => (by cases hk; simp [hil]), fun h => (by cases h)⟩ ⟨by simp, fun j hj hne => by rw [List.getElem?_set_ne (fun e => hne (by rw [e]))], .inl rfl⟩
    simpa [hrow] using this
theorem app_own {ys : List (List AV)} {sl : TypeId × Nat × List Value × Nat} {K : AV → List Blk → Prop} {w : Wit K} (o : Own t sz B M h es) (hn : n = es.length) (h1 : sl.1 = t) (h2 : sl.2.1 = sz) (hb : (es.length + ys.length) * sl.2.2.2 ≤ 140737488355328) (h63 : es.length + ys.length ≤ 9223372036854775807)
    (k : ∀ h' M', Own t sz B M' h' (es ++ ys) → Stp M M' h h' → K (hrow h' (es ++ ys).length) M') : appendVW M sl (hrow h n) ys K w :=
  app_at o.at' hn h1 h2 hb h63 fun h' M' r s => k h' M' (o.step r s) s
theorem tidy_giveC {H L : List Blk} {R : AE → List Blk → Prop} {f : AV → AV} {m : Nat} (hu : underH H.length H = true) (o : Own t sz H (H ++ L) h es) (hz : es.flatten.all AV.frzB = true)
    (hf : ∀ k, h = .some k → (f (.hs k 0 m es.length)).frz k sz es = f (.vs sz (es.take m)))
    (k : ∀ x L', Gv sz (es.take m) x → L'.length = L.length → (∀ i b, h ≠ .some i → (H ++ L)[i]? = .some b → b.under H.length = true → (H ++ L')[i]? = .some b) → Tidy H R (.ret (f x)) (H ++ L')) : Tidy H R (.ret (f (cutS h m es.length))) (H ++ L) := by
  cases h with
  | none =>
    have := o.nil rfl
    subst this
    refine k _ L (.inl ⟨rfl, by simp⟩) rfl fun i b _ hb _ => hb
  | some j =>
    obtain ⟨q, rfl⟩ : ∃ q, j = H.length + q := ⟨j - H.length, by have := o.new j rfl; omega⟩
    have hj := o.row _ rfl
    rw [List.getElem?_append_right (by omega), Nat.add_sub_cancel_left] at hj
    refine tidy_give hu q sz t es hj hz ?_
    show Tidy H R (.ret ((f (.hs (H.length + q) 0 m es.length)).frz (H.length + q) sz es)) _
    rw [hf _ rfl]
    refine k _ _ (.inr rfl) (by simp) fun i b hi hb hbu => ?_
    by_cases hil : i < H.length
    · rw [List.getElem?_append_left hil] at hb ⊢; exact hb
    · rw [List.getElem?_append_right (by omega)] at hb ⊢
      rw [List.getElem?_set_ne (fun e => hi (by rw [show i = H.length + q by omega])), List.getElem?_map, hb]
      simp only [Option.map_some, frzB_id (Nat.le_add_right _ _) b hbu]
theorem tidy_row1 {H : List Blk} {R : AE → List Blk → Prop} {m n : Nat} (hu : underH H.length H = true) (o : Own t sz H M h es) (hz : es.flatten.all AV.frzB = true) (hn : n = es.length) (hR : R (.ret (.vs sz (es.take m))) H) : Tidy H (WeakE R) (.ret (cutS h m n)) M := by
  subst hn
  obtain ⟨L, rfl⟩ := o.pre
  refine tidy_giveC (f := fun x => x) hu o hz (fun k hk => by simp [AV.frz]) fun x L' hx _ _ => ?_
  exact tidy_same (hx.under _) ⟨_, hx.weak, hR⟩
theorem tidy_rowA {H : List Blk} {R : AE → List Blk → Prop} {n : Nat} (hu : underH H.length H = true) (o : Own t sz H M h es) (hz : es.flatten.all AV.frzB = true) (hn : n = es.length) (hR : R (.ret (.vs sz es)) H) : Tidy H (WeakE R) (.ret (hrow h n)) M := by
  rw [← cutS_all]
  exact tidy_row1 hu o hz hn (by subst hn; rw [List.take_of_length_le (by omega)]; exact hR)
theorem tidy_rowAV {H : List Blk} {R : AE → List Blk → Prop} {n : Nat} {y : Value} (hu : underH H.length H = true) (o : Own t sz H M h es) (hz : es.flatten.all AV.frzB = true) (hn : n = es.length) (hR : R (.ret (.tup [.vs sz es, .v y])) H) : Tidy H (WeakE R) (.ret (.tup [hrow h n, .v y])) M := by
  subst hn
  obtain ⟨L, rfl⟩ := o.pre
  have := tidy_giveC (R := WeakE R) (f := fun x => .tup [x, .v y]) (m := es.length) hu o hz (fun k hk => by simp [AV.frz, frzL]) fun x L' hx _ _ => ?_
  · rw [cutS_all] at this; exact this
  · rw [List.take_of_length_le (by omega)] at hx
    exact tidy_same (by simp [AV.under, underL, hx.under]) ⟨_, .tupL (.cons hx.weak (.cons (.refl _) .nil)), hR⟩
theorem tidy_row2 {H : List Blk} {R : AE → List Blk → Prop} {h2 : Option Nat} {es2 : List (List AV)} {t2 sz2 m1 m2 n1 n2 : Nat} (hu : underH H.length H = true) (o : Own t sz H M h es) (o2 : Own t2 sz2 H M h2 es2) (hz : es.flatten.all AV.frzB = true) (hz2 : es2.flatten.all AV.frzB = true)
    (hne : ∀ k, h = .some k → h2 ≠ .some k) (hn1 : n1 = es.length) (hn2 : n2 = es2.length) (hR : R (.ret (.tup [.vs sz (es.take m1), .vs sz2 (es2.take m2)])) H) : Tidy H (WeakE R) (.ret (.tup [cutS h m1 n1, cutS h2 m2 n2])) M := by
  subst hn1 hn2
  obtain ⟨L, rfl⟩ := o.pre
  refine tidy_giveC (f := fun x => .tup [x, cutS h2 m2 es2.length]) hu o hz (fun k hk => ?_) fun x L' hx hl hg => ?_
  · have : (cutS h2 m2 es2.length).frz k sz es = cutS h2 m2 es2.length := by
      cases h2 with
      | none => rfl
      | some j => simp only [cutS, AV.frz]; rw [if_neg]; rintro ⟨e, _⟩; exact hne k hk (by rw [e])
    simp only [AV.frz, frzL, this]; simp
  · have o2' : Own t2 sz2 H (H ++ L') h2 es2 := ⟨⟨L', rfl⟩, fun k hk => hg k _ (fun e => hne k e hk) (o2.row k hk) (by
        have hz' := hz2
        rw [List.all_eq_true] at hz'
        simp only [Blk.under, List.all_eq_true]
        intro e he
        exact underL_frzB _ e (fun c hc => hz' c (List.mem_flatten.2 ⟨e, he, hc⟩))), o2.nil, o2.new⟩
    refine tidy_giveC (f := fun y => .tup [x, y]) hu o2' hz2 (fun k hk => ?_) fun y L2 hy _ _ => ?_
    · simp [AV.frz, frzL, hx.frz]
    · exact tidy_same (by simp [AV.under, underL, hx.under, hy.under]) ⟨_, .tupL (.cons hx.weak (.cons hy.weak .nil)), hR⟩
end Go.Mu
namespace Go.Mu
theorem awp_scope_r {P : Program} {n : Nat} {c : Code} {rs : List ResultVar} {R : AE → List Blk → Prop} {f : Fr} {H : List Blk} {ds : List ADef} (h : AWP P n c (retQ P rs R) f H ds) : AWP P n (.scope c) (retQ P rs R) f H ds := by
  refine awp_scope ?_
  refine Eq.mpr (congrArg (fun Q => AWP P n c Q f H ds) (a₂ := retQ P rs R) ?_) h
  funext x f H ds
  cases x <;> rfl
end Go.Mu
namespace Go.Mu
theorem astore_one {M : List Blk} {k t sz i n : Nat} {es : List (List AV)} {c x : AV} (hr : M[k]? = some (.row t sz es)) (hn : es.length = n) (hi : es[i]? = some [c]) : astore M (.rp k n i 0) [x] = some (M.set k (.row t sz (es.set i [x]))) := by
  subst hn
  simp [astore, hr, hi, spl]
end Go.Mu
namespace Go.Mu
theorem awp_giveX {P : Program} {n : Nat} {Q : AQ} {c : Code} {f : Fr} {N M : List Blk} {h : Option Nat} {t sz m : Nat} {es : List (List AV)} (s0 : Nat) (hu : underH N.length N = true) (o : Own t sz N M h es) (hz : es.flatten.all AV.frzB = true) (hs : f s0 = hrow h m) (hm : m = es.length)
    (k : ∀ M' f', f' s0 = .vs sz es → (∃ L, M' = N ++ L) → (∀ s, s ≠ s0 → (∀ j, h = some j → N.length ≤ j → (f s).frz j sz es = f s) → f' s = f s) → (∀ i b, h ≠ some i → M[i]? = some b → b.under N.length = true → M'[i]? = some b) → AWP P n c Q f' M' []) : AWP P n c Q f M [] := by
  subst hm
  cases h with
  | none =>
    have := o.nil rfl
    subst this
    refine awp_weak (f' := fun s => if s = s0 then .vs sz [] else f s) (fun s => ?_) (k M _ (if_pos rfl) o.pre (fun s hne _ => if_neg hne) (fun i b _ hb _ => hb))
    by_cases e : s = s0
    · subst e; simp only [if_true]; rw [hs]; exact .nil sz
    · simp only [e, if_false]; exact .refl _
  | some j =>
    obtain ⟨L, rfl⟩ := o.pre
    obtain ⟨q, rfl⟩ : ∃ q, j = N.length + q := ⟨j - N.length, by have := o.new j rfl; omega⟩
    have hj := o.row _ rfl
    rw [List.getElem?_append_right (by omega), Nat.add_sub_cancel_left] at hj
    refine awp_giveRow hu q sz t es hj hz fun L' f' hf hl hg => ?_
    refine k _ f' (by rw [hf, hs]; simp [hrow, AV.frz]) ⟨_, rfl⟩ (fun s _ hus => by rw [hf]; exact hus _ rfl (by omega)) (fun i b hi hb hbu => ?_)
    by_cases hil : i < N.length
    · rw [List.getElem?_append_left hil] at hb ⊢; exact hb
    · rw [List.getElem?_append_right (by omega)] at hb ⊢
      exact hg _ _ (fun e => hi (by rw [show i = N.length + q by omega])) hb hbu
theorem frz_hrow_ne {h2 : Option Nat} {k sz n : Nat} {es : List (List AV)} (hne : h2 ≠ some k) : (hrow h2 n).frz k sz es = hrow h2 n := by
  cases h2 with
  | none => rfl
  | some j => simp only [hrow, AV.frz]; rw [if_neg]; rintro ⟨e, _⟩; exact hne (by rw [e])
end Go.Mu
namespace Go.Mu
end Go.Mu
namespace Go.Proofs
open Go.Mu
theorem mayL_no {l : List Rg} (h : ¬ l.length ≤ 16) : mayL l = false := by unfold mayL; rw [decide_eq_false h]; rfl
theorem mayL_at {l : List Rg} {i : Nat} (hi : i < l.length) (h : mayAt l i = false) : mayL l = false := by
  unfold mayL
  rw [Bool.and_eq_false_iff]
  refine .inr ?_
  rw [List.all_eq_false]
  exact ⟨i, List.mem_range.2 hi, by rw [h]; decide⟩
theorem mayL_yes {l : List Rg} (h0 : l.length ≤ 16) (h : ∀ j, j < l.length → mayAt l j = true) : mayL l = true := by
  unfold mayL
  rw [decide_eq_true h0, Bool.true_and, List.all_eq_true]
  exact fun j hj => h j (List.mem_range.1 hj)
theorem mayAt_no1 {l : List Rg} {i : Nat} {a : Rg} (ha : l[i]? = some a) (h : a.may = false) : mayAt l i = false := by unfold mayAt; rw [ha]; simp [h]
theorem mayAt_no2 {l : List Rg} {i k : Nat} {a b : Rg} (ha : l[i]? = some a) (hb : l[k]? = some b) (hk : k < i) (h : a.clash b = true) : mayAt l i = false := by
  unfold mayAt
  rw [ha]
  simp only [Bool.and_eq_false_iff]
  refine .inr ?_
  rw [List.all_eq_false]
  exact ⟨b, List.mem_of_getElem? (by rw [List.getElem?_take, if_pos hk]; exact hb), by rw [h]; decide⟩
theorem mayAt_yes {l : List Rg} {i : Nat} {a : Rg} (ha : l[i]? = some a) (h : a.may = true) (hc : ∀ k b, k < i → l[k]? = some b → a.clash b = false) : mayAt l i = true := by
  unfold mayAt
  rw [ha]
  simp only [Bool.and_eq_true, List.all_eq_true, Bool.not_eq_true']
  refine ⟨h, fun b hb => ?_⟩
  obtain ⟨k, hk⟩ := List.mem_iff_getElem?.1 hb
  rw [List.getElem?_take] at hk
  split at hk
  · exact hc k b (by assumption) hk
  · cases hk
theorem mayAt_ok {l : List Rg} {i : Nat} {a : Rg} (ha : l[i]? = some a) (h : mayAt l i = true) : a.Ok := by
  unfold mayAt at h
  rw [ha] at h
  simp only [Bool.and_eq_true] at h
  exact (Rg.may_iff a).1 h.1
theorem mayL_ok {l : List Rg} (h : mayL l = true) : l.length ≤ 16 ∧ ∀ a ∈ l, a.Ok := by
  unfold mayL at h
  simp only [Bool.and_eq_true, decide_eq_true_eq, List.all_eq_true] at h
  refine ⟨h.1, fun a ha => ?_⟩
  obtain ⟨j, hj⟩ := List.mem_iff_getElem?.1 ha
  exact mayAt_ok hj (h.2 j (List.mem_range.2 (List.getElem?_eq_some_iff.1 hj).1))
theorem mmay_ok (l : List Rg) (hl : l.length ≤ 2^40) (H : List Blk) : ACalls Tryz.prog 87 [Rg.sl l] H (fun e H' => e = .ret (Bo (mayL l)) ∧ H' = H) := by
  refine acalls_tidy (acalls_of_awp Tryz.func87 rfl (by kernel_rfl) ?_)
  obtain ⟨E, hE⟩ : ∃ E, E = mayL l := ⟨_, rfl⟩
  rw [← hE]
  refine awp_cut (fun _ => false) (fun _ => none) (fun f M => H = M ∧ f 0 = Rg.sl l) (by kernel_rfl) ?_ ?_
  · simp -dsimp
  rintro f _ ⟨rfl, f0⟩
  refine awp_scope_r ?_
  refine awp_all (fun _ => false) (fun _ => none) (by kernel_rfl) ?_
  simp -dsimp [f0]
  by_cases h16 : l.length ≤ 16
  · have d16 : decide ((16 : Int) < (l.length : Int)) = false := decide_eq_false (by omega)
    have hat := fun i (hi : i < l.length) h => mayL_at hi h
    have hyes := mayL_yes h16
    rw [← hE] at hat hyes
    have hat := Hid.mk hat
    have hyes := Hid.mk hyes
    have hE := Hid.mk hE
    simp -dsimp [f0, d16]
    refine loop_rule (hn := fun _ => false) (od := fun _ => none) (fun (i : Nat) f M => f 0 = Rg.sl l ∧ f 3 = Bo true ∧ f 11 = Rg.sl l ∧ f 12 = I l.length ∧ f 13 = I i ∧ i ≤ l.length ∧ (∃ L, M = H ++ L) ∧ Hid (∀ j, j < i → mayAt l j = true)) (fun i => l.length - i) (by kernel_rfl) 0 (by refine ⟨by simp [f0], by simp, by simp, by simp, by simp, by omega, ⟨[], by simp⟩, ⟨fun j hj => by omega⟩⟩) ?_
    clear f0 f
    rintro i f _ ⟨f0, f3, f11, f12, f13, hi, ⟨L, rfl⟩, hok⟩
    simp -dsimp [f0, f3, f11, f12, f13]
    refine condVW_introD (fun hlt => ?_) (fun hlt => ?_)
    · have hlt' : i < l.length := by omega
      have hx := List.getElem?_eq_getElem hlt'
      obtain ⟨a, hae⟩ : ∃ a, a = l[i] := ⟨_, rfl⟩
      rw [← hae] at hx
      clear hae
      have g16 : (l.map Rg.cells)[i]? = some [St a.name, I a.addr, I a.size, Bo a.secret] := by rw [List.getElem?_map, hx]; rfl
      have ca := fun H => mmay1_ok a H
      simp only [Rg.cells] at ca
      obtain ⟨M, hM⟩ : ∃ M, M = H ++ L := ⟨_, rfl⟩
      rw [← hM]
      simp -dsimp [f0, f3, f11, f12, f13, g16]
      refine acallsW_det (ca _) ?_
      cases hm : a.may
      · have := hat.out i hlt' (mayAt_no1 hx hm)
        rw [this]
        simp -dsimp [f0, f3, f11, f12, f13]
        rw [hM, List.append_assoc]
        exact tidy_same rfl ⟨rfl, rfl⟩
      · have hao := (Rg.may_iff a).1 hm
        have hfa := Rg.fin_ok hao
        have ce := fun H => mend_ok a H
        rw [hfa] at ce
        simp only [Rg.cells] at ce
        obtain ⟨N, hN⟩ : ∃ N, N = M ++ [Blk.box 134 [St a.name, I a.addr, I a.size, Bo a.secret]] := ⟨_, rfl⟩
        have hNL : ∃ X, N = H ++ X := ⟨_, by rw [hN, hM, List.append_assoc]⟩
        have n1 : ∀ L, (N ++ L)[M.length]? = some (.box 134 [St a.name, I a.addr, I a.size, Bo a.secret]) := fun L => by rw [hN]; simp
        have dl : decide ((i : Int) ≤ (l.length : Int)) = true := decide_eq_true (by omega)
        have ml : min i l.length = i := by omega
        simp -dsimp [f0, f3, f11, f12, f13]
        rw [← hN]
        refine andVW_intro hi ?_
        obtain ⟨T, hT⟩ : ∃ T, T = List.drop ((none : Option Int).getD 0).toNat (List.take ((some (i : Int)).getD ((l.map Rg.cells).length : Int)).toNat (l.map Rg.cells)) := ⟨_, rfl⟩
        rw [← hT]
        have hT2 : T = (l.map Rg.cells).take i := by rw [hT]; simp
        have hTl : T.length = i := by rw [hT2]; simp; omega
        have hTk : ∀ (k : Nat) (b : Rg), k < i → l[k]? = some b → T[k]? = some b.cells := fun k b hk hb => by rw [hT2, List.getElem?_take, if_pos hk, List.getElem?_map, hb]; rfl
        clear hT hT2
        have hTk := Hid.mk hTk
        simp -dsimp [f0, f3, f11, f12, f13, hTl]
        refine loop_rule (hn := fun _ => false) (od := fun _ => none) (fun (k : Nat) g M' => g 0 = Rg.sl l ∧ g 3 = Bo true ∧ g 5 = .bp M.length 0 ∧ g 11 = Rg.sl l ∧ g 12 = I l.length ∧ g 13 = I i ∧ g 24 = .vs 4 T ∧ g 25 = I i ∧ g 26 = I k ∧ k ≤ i ∧ (∃ L, M' = N ++ L) ∧ Hid (∀ q b, q < k → l[q]? = some b → a.clash b = false)) (fun k => i - k) (by kernel_rfl) 0 (by refine ⟨by simp [f0], by simp, by simp, by simp [f11], by simp [f12], by simp [f13], by simp, by simp, by simp, by omega, ⟨[], by simp⟩, ⟨fun q b hq => by omega⟩⟩) ?_
        clear f0 f3 f11 f12 f13 f
        rintro k f _ ⟨f0, f3, f5, f11, f12, f13, f24, f25, f26, hk, ⟨L2, rfl⟩, hcl⟩
        simp -dsimp [f0, f3, f5, f11, f12, f13, f24, f25, f26]
        refine condVW_introD (fun hlt2 => ?_) (fun hlt2 => ?_)
        · have hlt2' : k < i := by omega
          have hy := List.getElem?_eq_getElem (show k < l.length by omega)
          obtain ⟨b, hbe⟩ : ∃ b, b = l[k] := ⟨_, rfl⟩
          rw [← hbe] at hy
          clear hbe
          have gk : T[k]? = some [St b.name, I b.addr, I b.size, Bo b.secret] := hTk.out k b hlt2' hy
          have hbo := mayAt_ok hy (hok.out k hlt2')
          have hfb := Rg.fin_ok hbo
          have cb := fun H => mend_ok b H
          rw [hfb] at cb
          simp only [Rg.cells] at cb
          have hcd : a.clash b = (decide (a.name = b.name) || (decide (a.addr < b.addr + 8 * b.size) && decide (b.addr < a.addr + 8 * a.size))) := rfl
          obtain ⟨e1, he1⟩ : ∃ e, e = decide (a.name = b.name) := ⟨_, rfl⟩
          obtain ⟨e2, he2⟩ : ∃ e, e = decide (a.addr < b.addr + 8 * b.size) := ⟨_, rfl⟩
          obtain ⟨e3, he3⟩ : ∃ e, e = decide (b.addr < a.addr + 8 * a.size) := ⟨_, rfl⟩
          rw [← he1, ← he2, ← he3] at hcd
          have he1 := he1.symm
          have he2 := he2.symm
          have he3 := he3.symm
          have n1a := n1 L2
          have n1b := n1 (L2 ++ [.box 134 [St b.name, I b.addr, I b.size, Bo b.secret]])
          have n2 : (N ++ (L2 ++ [.box 134 [St b.name, I b.addr, I b.size, Bo b.secret]]))[N.length + L2.length]? = some (.box 134 [St b.name, I b.addr, I b.size, Bo b.secret]) := by rw [← List.append_assoc, List.getElem?_append_right (by simp)]; simp
          have bad : a.clash b = true → E = false := fun h => hat.out i hlt' (mayAt_no2 hx hy hlt2' h)
          have hgo : a.clash b = false → Hid (∀ q c, q < k + 1 → l[q]? = some c → a.clash c = false) := fun h => ⟨fun q c hq hc => by
            by_cases e : q = k
            · subst e; rw [hy] at hc; cases hc; exact h
            · exact hcl.out q c (by omega) hc⟩
          have bad := Hid.mk bad
          have hgo := Hid.mk hgo
          have hcd := Hid.mk hcd
          simp -dsimp [f0, f3, f5, f11, f12, f13, f24, f25, f26, gk, n1b, n2, he1]
          cases e1
          · simp -dsimp [f0, f3, f5, f11, f12, f13, f24, f25, f26, gk, n1b, n2]
            refine callDW_intro (cb _) ?_
            simp -dsimp [f0, f3, f5, f11, f12, f13, f24, f25, f26, gk, n1b, n2, he2]
            cases e2
            ·
              simp -dsimp [f0, f3, f5, f11, f12, f13, f24, f25, f26]
              exact ⟨k + 1, by omega, wrapS (by omega), by omega, hgo.out (by rw [hcd.out]; rfl)⟩
            · simp -dsimp [f0, f3, f5, f11, f12, f13, f24, f25, f26, gk, n1b, n2]
              refine callDW_intro (ce _) ?_
              simp -dsimp [f0, f3, f5, f11, f12, f13, f24, f25, f26, gk, n1b, n2, he3]
              cases e3
              ·
                simp -dsimp [f0, f3, f5, f11, f12, f13, f24, f25, f26]
                exact ⟨k + 1, by omega, wrapS (by omega), by omega, hgo.out (by rw [hcd.out]; rfl)⟩
              ·
                rw [bad.out (by rw [hcd.out]; rfl)]
                simp -dsimp [f0, f3, f5, f11, f12, f13, f24, f25, f26]
                obtain ⟨X, rfl⟩ := hNL
                rw [List.append_assoc]
                exact tidy_same rfl ⟨rfl, rfl⟩
          ·
            rw [bad.out (by rw [hcd.out]; rfl)]
            simp -dsimp [f0, f3, f5, f11, f12, f13, f24, f25, f26]
            obtain ⟨X, rfl⟩ := hNL
            rw [List.append_assoc]
            exact tidy_same rfl ⟨rfl, rfl⟩
        · simp -dsimp [f0, f3, f5, f11, f12, f13, f24, f25, f26]
          obtain ⟨X, rfl⟩ := hNL
          refine ⟨i + 1, by omega, wrapS (by omega), by omega, ⟨_, by rw [List.append_assoc]⟩, ⟨fun j hj => ?_⟩⟩
          by_cases e : j = i
          · subst e; exact mayAt_yes hx hm (fun q b hq hb => hcl.out q b (by omega) hb)
          · exact hok.out j (by omega)
    · rw [hyes.out (fun j hj => hok.out j (by omega))]
      simp -dsimp [f0, f3, f11, f12, f13]
      exact tidy_same rfl ⟨rfl, rfl⟩
  · have d16 : decide ((16 : Int) < (l.length : Int)) = true := decide_eq_true (by omega)
    simp -dsimp [f0, d16]
    rw [hE, mayL_no h16]
    exact tidy_now rfl ⟨rfl, rfl⟩
end Go.Proofs
namespace Go.Proofs
open Go.Mu
theorem rmmay_ok (l : List Rg) (hl : l.length ≤ 2^40) (H : List Blk) : ACalls Tryz.prog 22 [Rg.sl l] H (fun e H' => e = .ret (Bo (mayL l)) ∧ H' = H) := by
  refine acalls_tidy (acalls_of_vc (hn := fun _ => false) (od := fun _ => none) Tryz.func22 rfl (by kernel_rfl) ?_)
  obtain ⟨E, hE⟩ : ∃ E, E = mayL l := ⟨_, rfl⟩
  rw [← hE]
  simp -dsimp
  by_cases h16 : l.length ≤ 16
  · have d16 : decide ((16 : Int) < (l.length : Int)) = false := decide_eq_false (by omega)
    have hat := fun i (hi : i < l.length) h => mayL_at hi h
    have hyes := mayL_yes h16
    rw [← hE] at hat hyes
    have hat := Hid.mk hat
    have hyes := Hid.mk hyes
    have hE := Hid.mk hE
    simp -dsimp [d16]
    refine loop_rule (hn := fun _ => false) (od := fun _ => none) (fun (i : Nat) f M => f 0 = Rg.sl l ∧ f 3 = I i ∧ i ≤ l.length ∧ (∃ L, M = H ++ L) ∧ Hid (∀ j, j < i → mayAt l j = true)) (fun i => l.length - i) (by kernel_rfl) 0 (by refine ⟨by simp, by simp, by omega, ⟨[], by simp⟩, ⟨fun j hj => by omega⟩⟩) ?_
    rintro i f _ ⟨f0, f3, hi, ⟨L, rfl⟩, hok⟩
    simp -dsimp [f0, f3]
    refine condVW_introD (fun hlt => ?_) (fun hlt => ?_)
    · have hlt' : i < l.length := by omega
      have hx := List.getElem?_eq_getElem hlt'
      obtain ⟨a, hae⟩ : ∃ a, a = l[i] := ⟨_, rfl⟩
      rw [← hae] at hx
      clear hae
      have g16 : (l.map Rg.cells)[i]? = some [St a.name, I a.addr, I a.size, Bo a.secret] := by rw [List.getElem?_map, hx]; rfl
      obtain ⟨M, hM⟩ : ∃ M, M = H ++ L := ⟨_, rfl⟩
      rw [← hM]
      have hmE : a.may = (decide (1 ≤ a.name.size) && decide (a.name.size ≤ 16) && decide (1 ≤ a.size) && decide (a.size ≤ 512) && decide (0 ≤ a.addr) && decide (a.addr.tmod 8 = 0) && decide (a.addr ≤ 49152 - 8 * a.size)) := rfl
      have no := hat.out i hlt'
      have no1 := fun h => no (mayAt_no1 hx h)
      obtain ⟨c1, h1⟩ : ∃ c, c = decide (1 ≤ a.name.size) := ⟨_, rfl⟩
      obtain ⟨c2, h2⟩ : ∃ c, c = decide (a.name.size ≤ 16) := ⟨_, rfl⟩
      obtain ⟨c3, h3⟩ : ∃ c, c = decide (1 ≤ a.size) := ⟨_, rfl⟩
      obtain ⟨c4, h4⟩ : ∃ c, c = decide (a.size ≤ 512) := ⟨_, rfl⟩
      obtain ⟨c5, h5⟩ : ∃ c, c = decide (0 ≤ a.addr) := ⟨_, rfl⟩
      obtain ⟨c6, h6⟩ : ∃ c, c = decide (a.addr.tmod 8 = 0) := ⟨_, rfl⟩
      obtain ⟨c7, h7⟩ : ∃ c, c = decide (a.addr ≤ 49152 - 8 * a.size) := ⟨_, rfl⟩
      rw [← h1, ← h2, ← h3, ← h4, ← h5, ← h6, ← h7] at hmE
      have neg : ∀ (p q : Prop) [Decidable p] [Decidable q], (p ↔ ¬ q) → decide p = !decide q := fun p q _ _ h => by
        by_cases hq : q <;> simp [hq, h]
      have d1 : decide ((a.name.size : Int) < 1) = !c1 := by rw [h1]; exact neg _ _ (by omega)
      have d2 : decide ((16 : Int) < (a.name.size : Int)) = !c2 := by rw [h2]; exact neg _ _ (by omega)
      have d3 : decide (a.size < 1) = !c3 := by rw [h3]; exact neg _ _ (by omega)
      have d4 : decide (512 < a.size) = !c4 := by rw [h4]; exact neg _ _ (by omega)
      have d5 : decide (a.addr < 0) = !c5 := by rw [h5]; exact neg _ _ (by omega)
      have d6 : (a.addr.tmod 8 != 0) = !c6 := by rw [h6]; by_cases q : a.addr.tmod 8 = 0 <;> simp [q]
      have d7 : c3 = true → c4 = true → decide (IntKind.i64.wrap (49152 - IntKind.i64.wrap (8 * a.size)) < a.addr) = !c7 := fun e3 e4 => by
        rw [h3, decide_eq_true_eq] at e3
        rw [h4, decide_eq_true_eq] at e4
        rw [h7, wrapI (n := 8 * a.size) (by omega) (by omega), wrapI (by omega) (by omega)]
        exact neg _ _ (by omega)
      have hmE := Hid.mk hmE
      have no1 := Hid.mk no1
      clear h1 h2 h3 h4 h5 h6 h7 neg no
      cases c1
      · simp -dsimp [f0, f3, g16, d1, d2, d3, d4, d5, d6]
        rw [no1.out (by rw [hmE.out]; simp), hM, List.append_assoc]
        exact tidy_same rfl ⟨rfl, rfl⟩
      cases c2
      · simp -dsimp [f0, f3, g16, d1, d2, d3, d4, d5, d6]
        rw [no1.out (by rw [hmE.out]; simp), hM, List.append_assoc]
        exact tidy_same rfl ⟨rfl, rfl⟩
      cases c3
      · simp -dsimp [f0, f3, g16, d1, d2, d3, d4, d5, d6]
        rw [no1.out (by rw [hmE.out]; simp), hM, List.append_assoc]
        exact tidy_same rfl ⟨rfl, rfl⟩
      cases c4
      · simp -dsimp [f0, f3, g16, d1, d2, d3, d4, d5, d6]
        rw [no1.out (by rw [hmE.out]; simp), hM, List.append_assoc]
        exact tidy_same rfl ⟨rfl, rfl⟩
      cases c5
      · simp -dsimp [f0, f3, g16, d1, d2, d3, d4, d5, d6]
        rw [no1.out (by rw [hmE.out]; simp), hM, List.append_assoc]
        exact tidy_same rfl ⟨rfl, rfl⟩
      cases c6
      · simp -dsimp [f0, f3, g16, d1, d2, d3, d4, d5, d6]
        rw [no1.out (by rw [hmE.out]; simp), hM, List.append_assoc]
        exact tidy_same rfl ⟨rfl, rfl⟩
      have d7 := d7 rfl rfl
      cases c7
      · simp -dsimp [f0, f3, g16, d1, d2, d3, d4, d5, d6, d7]
        rw [no1.out (by rw [hmE.out]; simp), hM, List.append_assoc]
        exact tidy_same rfl ⟨rfl, rfl⟩
      have hm : a.may = true := by rw [hmE.out]; rfl
      have hao := (Rg.may_iff a).1 hm
      have b1 := hao.s1
      have b2 := hao.s2
      have b3 := hao.a1
      have b4 := hao.a3
      have wa1 : IntKind.i64.wrap (8 * a.size) = 8 * a.size := wrapI (by omega) (by omega)
      have wa2 : IntKind.i64.wrap (a.addr + 8 * a.size) = a.addr + 8 * a.size := wrapI (by omega) (by omega)
      obtain ⟨N, hN⟩ : ∃ N, N = M ++ [Blk.box 134 [St a.name, I a.addr, I a.size, Bo a.secret]] := ⟨_, rfl⟩
      have hNL : ∃ X, N = H ++ X := ⟨_, by rw [hN, hM, List.append_assoc]⟩
      have n1 : N[M.length]? = some (.box 134 [St a.name, I a.addr, I a.size, Bo a.secret]) := by rw [hN]; simp
      simp -dsimp [f0, f3, g16, d1, d2, d3, d4, d5, d6, d7]
      rw [← hN]
      refine loop_rule (hn := fun _ => false) (od := fun _ => none) (fun (k : Nat) g M' => N = M' ∧ g 0 = Rg.sl l ∧ g 3 = I i ∧ g 4 = .bp M.length 0 ∧ g 5 = I k ∧ k ≤ i ∧ Hid (∀ q b, q < k → l[q]? = some b → a.clash b = false)) (fun k => i - k) (by kernel_rfl) 0 (by refine ⟨rfl, by simp [f0], by simp [f3], by simp, by simp, by omega, ⟨fun q b hq => by omega⟩⟩) ?_
      clear f0 f3 f d1 d2 d3 d4 d5 d6 d7
      rintro k f _ ⟨rfl, f0, f3, f4, f5, hk, hcl⟩
      simp -dsimp [f0, f3, f4, f5]
      refine condVW_introD (fun hlt2 => ?_) (fun hlt2 => ?_)
      · have hlt2' : k < i := by omega
        have hy := List.getElem?_eq_getElem (show k < l.length by omega)
        obtain ⟨b, hbe⟩ : ∃ b, b = l[k] := ⟨_, rfl⟩
        rw [← hbe] at hy
        clear hbe
        have gk : (l.map Rg.cells)[k]? = some [St b.name, I b.addr, I b.size, Bo b.secret] := by rw [List.getElem?_map, hy]; rfl
        have hbo := mayAt_ok hy (hok.out k hlt2')
        have b5 := hbo.s1
        have b6 := hbo.s2
        have b7 := hbo.a1
        have b8 := hbo.a3
        have wb1 : IntKind.i64.wrap (8 * b.size) = 8 * b.size := wrapI (by omega) (by omega)
        have wb2 : IntKind.i64.wrap (b.addr + 8 * b.size) = b.addr + 8 * b.size := wrapI (by omega) (by omega)
        have hcd : a.clash b = (decide (a.name = b.name) || (decide (a.addr < b.addr + 8 * b.size) && decide (b.addr < a.addr + 8 * a.size))) := rfl
        obtain ⟨e1, he1⟩ : ∃ e, e = decide (a.name = b.name) := ⟨_, rfl⟩
        obtain ⟨e2, he2⟩ : ∃ e, e = decide (a.addr < b.addr + 8 * b.size) := ⟨_, rfl⟩
        obtain ⟨e3, he3⟩ : ∃ e, e = decide (b.addr < a.addr + 8 * a.size) := ⟨_, rfl⟩
        rw [← he1, ← he2, ← he3] at hcd
        have he1 : decide (b.name = a.name) = e1 := by rw [he1]; exact decide_eq_decide.2 eq_comm
        have he2 := he2.symm
        have he3 := he3.symm
        have bad : a.clash b = true → E = false := fun h => hat.out i hlt' (mayAt_no2 hx hy hlt2' h)
        have hgo : a.clash b = false → Hid (∀ q c, q < k + 1 → l[q]? = some c → a.clash c = false) := fun h => ⟨fun q c hq hc => by
          by_cases e : q = k
          · subst e; rw [hy] at hc; cases hc; exact h
          · exact hcl.out q c (by omega) hc⟩
        have bad := Hid.mk bad
        have hgo := Hid.mk hgo
        have hcd := Hid.mk hcd
        cases e1
        · cases e3
          · simp -dsimp [f0, f3, f4, f5, gk, n1, wa1, wa2, wb1, wb2, he1, he2, he3]
            exact ⟨k + 1, by omega, wrapS (by omega), by omega, hgo.out (by rw [hcd.out]; simp)⟩
          · cases e2
            · simp -dsimp [f0, f3, f4, f5, gk, n1, wa1, wa2, wb1, wb2, he1, he2, he3]
              exact ⟨k + 1, by omega, wrapS (by omega), by omega, hgo.out (by rw [hcd.out]; simp)⟩
            · simp -dsimp [f0, f3, f4, f5, gk, n1, wa1, wa2, wb1, wb2, he1, he2, he3]
              rw [bad.out (by rw [hcd.out]; simp)]
              obtain ⟨X, rfl⟩ := hNL
              exact tidy_same rfl ⟨rfl, rfl⟩
        · simp -dsimp [f0, f3, f4, f5, gk, n1, wa1, wa2, wb1, wb2, he1, he2, he3]
          rw [bad.out (by rw [hcd.out]; simp)]
          obtain ⟨X, rfl⟩ := hNL
          exact tidy_same rfl ⟨rfl, rfl⟩
      · simp -dsimp [f0, f3, f4, f5]
        obtain ⟨X, rfl⟩ := hNL
        refine ⟨i + 1, by omega, wrapS (by omega), by omega, ⟨_, rfl⟩, ⟨fun j hj => ?_⟩⟩
        by_cases e : j = i
        · subst e; exact mayAt_yes hx hm (fun q b hq hb => hcl.out q b (by omega) hb)
        · exact hok.out j (by omega)
    · rw [hyes.out (fun j hj => hok.out j (by omega))]
      simp -dsimp [f0, f3]
      exact tidy_same rfl ⟨rfl, rfl⟩
  · have d16 : decide ((16 : Int) < (l.length : Int)) = true := decide_eq_true (by omega)
    simp -dsimp [d16]
    rw [hE, mayL_no h16]
    exact tidy_now rfl ⟨rfl, rfl⟩
def fitsL (l : List Rg) (w : List (List Int)) : Bool := decide (l.length = w.length) && (List.range l.length).all fun i => match l[i]?, w[i]? with | some r, some x => decide ((x.length : Int) = r.size) | _, _ => false
abbrev Wo.sl (l : List Int) : AV := .vs 1 (l.map fun w => [U w])
abbrev Us.sl (w : List (List Int)) : AV := .vs 1 (w.map fun x => [Wo.sl x])
theorem fits_at {l : List Rg} {w : List (List Int)} (h : fitsL l w = true) : l.length = w.length ∧ ∀ (i : Nat) r x, l[i]? = some r → w[i]? = some x → (x.length : Int) = r.size := by
  unfold fitsL at h
  simp only [Bool.and_eq_true, decide_eq_true_eq, List.all_eq_true, List.mem_range] at h
  refine ⟨h.1, fun i r x hr hx => ?_⟩
  have := h.2 i (List.getElem?_eq_some_iff.1 hr).1
  rw [hr, hx] at this
  simpa using this
theorem rmfits_ok (l : List Rg) (w : List (List Int)) (hl : l.length ≤ 2^40) (H : List Blk) : ACalls Tryz.prog 23 [Rg.sl l, Us.sl w] H (fun e H' => e = .ret (Bo (fitsL l w)) ∧ H' = H) := by
  refine acalls_tidy (acalls_of_vc (hn := fun _ => false) (od := fun _ => none) Tryz.func23 rfl (by kernel_rfl) ?_)
  obtain ⟨E, hE⟩ : ∃ E, E = fitsL l w := ⟨_, rfl⟩
  rw [← hE]
  simp -dsimp
  by_cases hlw : l.length = w.length
  · have dlw : ((l.length : Int) != (w.length : Int)) = false := by simp [hlw]
    have hno : ∀ (i : Nat) r x, l[i]? = some r → w[i]? = some x → ¬ (x.length : Int) = r.size → E = false := fun i r x hr hx h => by
      rw [hE, fitsL, Bool.and_eq_false_iff]
      refine .inr (List.all_eq_false.2 ⟨i, List.mem_range.2 (List.getElem?_eq_some_iff.1 hr).1, ?_⟩)
      rw [hr, hx]
      simpa using h
    have hyes : (∀ (i : Nat) r x, l[i]? = some r → w[i]? = some x → (x.length : Int) = r.size) → E = true := fun h => by
      rw [hE, fitsL, decide_eq_true hlw, Bool.true_and, List.all_eq_true]
      intro i hi
      have h1 := List.getElem?_eq_getElem (List.mem_range.1 hi)
      have h2 := List.getElem?_eq_getElem (show i < w.length by have := List.mem_range.1 hi; omega)
      rw [h1, h2]
      simpa using h i _ _ h1 h2
    have hno := Hid.mk hno
    have hyes := Hid.mk hyes
    have hE := Hid.mk hE
    have hlw := Hid.mk hlw
    simp -dsimp [dlw]
    refine loop_rule (hn := fun _ => false) (od := fun _ => none) (fun (i : Nat) f M => H = M ∧ f 0 = Rg.sl l ∧ f 1 = Us.sl w ∧ f 5 = I i ∧ i ≤ l.length ∧ Hid (∀ (j : Nat) r x, j < i → l[j]? = some r → w[j]? = some x → (x.length : Int) = r.size)) (fun i => l.length - i) (by kernel_rfl) 0 (by refine ⟨rfl, by simp, by simp, by simp, by omega, ⟨fun j r x hj => by omega⟩⟩) ?_
    rintro i f _ ⟨rfl, f0, f1, f5, hi, hok⟩
    simp -dsimp [f0, f1, f5]
    refine condVW_introD (fun hlt => ?_) (fun hlt => ?_)
    · have hlt' : i < l.length := by omega
      have hx := List.getElem?_eq_getElem hlt'
      have hy := List.getElem?_eq_getElem (show i < w.length by rw [← hlw.out]; exact hlt')
      obtain ⟨a, hae⟩ : ∃ a, a = l[i] := ⟨_, rfl⟩
      obtain ⟨x, hxe⟩ : ∃ x, x = w[i]'(by rw [← hlw.out]; exact hlt') := ⟨_, rfl⟩
      rw [← hae] at hx
      rw [← hxe] at hy
      clear hae hxe
      have g1 : (l.map Rg.cells)[i]? = some [St a.name, I a.addr, I a.size, Bo a.secret] := by rw [List.getElem?_map, hx]; rfl
      have g2 : (w.map fun x => [Wo.sl x])[i]? = some [Wo.sl x] := by rw [List.getElem?_map, hy]; rfl
      by_cases hs : (x.length : Int) = a.size
      · have d : ((x.length : Int) != a.size) = false := by simp [hs]
        have nx : Hid (∀ (j : Nat) r x, j < i + 1 → l[j]? = some r → w[j]? = some x → (x.length : Int) = r.size) := ⟨fun j r y hj h1 h2 => by
          by_cases e : j = i
          · subst e; rw [hx] at h1; rw [hy] at h2; cases h1; cases h2; exact hs
          · exact hok.out j r y (by omega) h1 h2⟩
        simp -dsimp [f0, f1, f5, g1, g2, d]
        exact ⟨i + 1, by omega, wrapS (by omega), by omega, nx⟩
      · have d : ((x.length : Int) != a.size) = true := by simp [hs]
        rw [hno.out i a x hx hy hs]
        simp -dsimp [f0, f1, f5, g1, g2, d]
        exact tidy_now rfl ⟨rfl, rfl⟩
    · rw [hyes.out (fun j r x h1 h2 => hok.out j r x (by have := (List.getElem?_eq_some_iff.1 h1).1; omega) h1 h2)]
      simp -dsimp [f0, f1, f5]
      exact tidy_now rfl ⟨rfl, rfl⟩
  · have dlw : ((l.length : Int) != (w.length : Int)) = true := by simp; omega
    simp -dsimp [dlw]
    rw [show E = false by rw [hE, fitsL, decide_eq_false hlw]; rfl]
    exact tidy_now rfl ⟨rfl, rfl⟩
end Go.Proofs
namespace Go.Proofs.YteoimifnfkpdeaaGreat.Lift
open Go.ChangeShapes Go.WideShapes Go.ChangeAt Go.RowKit Go.Mu Go.Proofs
section
variable {H : Type} {enc : TypeId × Value → H} {cx : Cx}
theorem tells_s (n : Nat) : Tells enc Tryz.prog cx n 9 (fun s : ByteArray => [St s]) (fun s => s.size + 1) (fun _ => True) := tells_string (by kernel_rfl)
theorem tells_rg : ∀ n, Tells enc Tryz.prog cx n 134 Rg.cells (fun _ => 1) (fun _ => True)
  | 0 => tells_zero
  | n + 1 => (tells_struct (fl := [(9, 0, 1), (3, 1, 1), (3, 2, 1), (4, 3, 1)]) (by kernel_rfl) (by kernel_rfl)
      (tellsF_cons (tells_s n) (tellsF_cons (tells_i 3 (by kernel_rfl) n) (tellsF_cons (tells_i 3 (by kernel_rfl) n) (tellsF_cons (tells_b n) tellsF_nil))))).map (fun (a0, a1, a2, a3, _) => ⟨a0, a1, a2, a3⟩) (fun _ => rfl) (fun ⟨a0, a1, a2, a3, _⟩ => by simp only; omega) (fun _ _ => trivial)
theorem tells_rgs (hΦ : ∀ b, b < cx.w.heap.size → cx.Φ b) : ∀ n, Tells enc Tryz.prog cx n 27 (fun l : List Rg => [Rg.sl l]) (fun l => l.length) (fun _ => True)
  | 0 => tells_zero
  | n + 1 => (tells_slice (e := 134) (sz := 4) (by kernel_rfl) (by kernel_rfl) (by omega) hΦ (tells_rg n)).map id (fun _ => rfl) (fun l => by rw [sizes_one]; exact Nat.le_succ _) (fun _ _ => trivial)
theorem tells_wo (hΦ : ∀ b, b < cx.w.heap.size → cx.Φ b) : ∀ n, Tells enc Tryz.prog cx n 26 (fun l : List Int => [Wo.sl l]) (fun l => l.length) (fun l => ∀ x ∈ l, 0 ≤ x ∧ x ≤ 18446744073709551615)
  | 0 => tells_zero
  | n + 1 => (tells_slice (e := 29) (sz := 1) (by kernel_rfl) (by kernel_rfl) (by omega) hΦ (tells_u n)).map id (fun _ => rfl) (fun l => by rw [sizes_one]; exact Nat.le_succ _) (fun _ h => h)
theorem tells_us (hΦ : ∀ b, b < cx.w.heap.size → cx.Φ b) : ∀ n, Tells enc Tryz.prog cx n 28 (fun l : List (List Int) => [Us.sl l]) (fun _ => 0) (fun l => ∀ w ∈ l, ∀ x ∈ w, 0 ≤ x ∧ x ≤ 18446744073709551615)
  | 0 => tells_zero
  | n + 1 => (tells_slice (e := 26) (sz := 1) (by kernel_rfl) (by kernel_rfl) (by omega) hΦ (tells_wo hΦ n)).map id (fun _ => rfl) (fun l => Nat.zero_le _) (fun _ h => h)
end
section
variable {H : Type} {enc : TypeId × Value → H} {W : World} {base : Nat}
theorem arg_rgs : ArgOk enc Tryz.prog W base 27 Rg.sl (fun l => l.length) (fun _ => True) := arg_one (one_slice (e := 134) (by kernel_rfl)) fun n => tells_rgs (fun _ h => h) n
theorem arg_wo : ArgOk enc Tryz.prog W base 26 (fun l : List Int => Wo.sl l) (fun l => l.length) (fun l => ∀ x ∈ l, 0 ≤ x ∧ x ≤ 18446744073709551615) := arg_one (one_slice (e := 29) (by kernel_rfl)) fun n => tells_wo (fun _ h => h) n
theorem arg_us : ArgOk enc Tryz.prog W base 28 (fun l : List (List Int) => Us.sl l) (fun _ => 0) (fun l => ∀ w ∈ l, ∀ x ∈ w, 0 ≤ x ∧ x ≤ 18446744073709551615) := arg_one (one_slice (e := 26) (by kernel_rfl)) fun n => tells_us (fun _ h => h) n
end
end Go.Proofs.YteoimifnfkpdeaaGreat.Lift
