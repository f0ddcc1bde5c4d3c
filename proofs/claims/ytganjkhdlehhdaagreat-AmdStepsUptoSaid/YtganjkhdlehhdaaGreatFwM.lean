/- A region whose order of evaluation is drawn: one order is enough where the others differ in what does not matter. -/
import Derived.Test.YtganjkhdlehhdaaGreatFwJ
import Derived.Orders
set_option linter.unusedVariables false
set_option linter.unusedSimpArgs false
namespace Go.Mu
open Go.RowKit (Below)
def gdst (ops : Array Oper) (j : Nat) : Nat := ((ops[j]?).bind (·.dst)).getD 0
def smallO (n : Nat) (ops : Array Oper) (o : Oper) : Bool :=
  Oper.small n o && (match o.guard with | none => true | some (j, _) => (match (ops[j]?).bind (·.dst) with | some d => decide (d < n) | none => false))
def DetSem (P : Program) (o : Oper) (ρ : Operand → AV) (H : List Blk) (r : AV) : Prop := OpSem P o ρ H (fun r' H' => r' = r ∧ H' = H) (fun _ _ => False)
theorem OpSem.congr {P : Program} {o : Oper} {ρ ρ' : Operand → AV} {H : List Blk} {K pan : AV → List Blk → Prop} (h : ∀ x ∈ o.op.operands, ρ x = ρ' x) (k : OpSem P o ρ H K pan) : OpSem P o ρ' H K pan := by
  intro B w0 cx ρc h1 h2 h3
  exact k B w0 cx ρc h1 h2 (fun x hx => by rw [h x hx]; exact h3 x hx)
theorem OpSem.mono {P : Program} {o : Oper} {ρ : Operand → AV} {H : List Blk} {K K' pan pan' : AV → List Blk → Prop} (hk : ∀ r H', K r H' → K' r H') (hp : ∀ r H', pan r H' → pan' r H') (hop : OpSem P o ρ H K pan) : OpSem P o ρ H K' pan' := by
  intro B w0 cx ρc h1 h2 h3
  have := hop B w0 cx ρc h1 h2 h3
  split at this
  · obtain ⟨cx', r, a1, a2, a3, a4, a5⟩ := this; exact ⟨cx', r, a1, a2, a3, a4, hk _ _ a5⟩
  · obtain ⟨cx', a1, a2, a3, a4⟩ := this; exact ⟨cx', a1, a2, a3, hk _ _ a4⟩
  · obtain ⟨cx', avs, a1, a2, a3, a4, a5⟩ := this
    exact ⟨cx', avs, a1, a2, a3, a4, a5.mono fun e H' he => by cases e <;> first | exact hk _ _ he | exact hp _ _ he⟩
  · obtain ⟨cx', a1, a2, a3, a4⟩ := this
    exact ⟨cx', a1, a2, a3, a4.mono fun e w' he => he.mono fun e H' he => by cases e <;> first | exact hk _ _ he | exact hp _ _ he⟩
  · obtain ⟨cx', x, a1, a2, a3, a4, a5⟩ := this; exact ⟨cx', x, a1, a2, a3, a4, hp _ _ a5⟩
  · exact this
def StepD (P : Program) (ops : Array Oper) (o : Oper) (f : Fr) (H : List Blk) (r : AV) : Prop :=
  match o.guard with
  | none => DetSem P o (ev f) H r
  | some (j, want) => guardV (f (gdst ops j)) want (DetSem P o (ev f) H r) (r = .tup [])
def StepB (P : Program) (ops : Array Oper) (o : Oper) (f : Fr) (H : List Blk) (ds : List ADef) (Q : AQ) (K : Fr → List Blk → Prop) : Prop :=
  match o.guard with
  | none => OpSem P o (ev f) H (fun r H' => K (updO f o.dst r) H') (fun x H' => Q (.pan x) (maskFr ops f) H' ds)
  | some (j, want) => guardV (f (gdst ops j)) want (OpSem P o (ev f) H (fun r H' => K (updO f o.dst r) H') (fun x H' => Q (.pan x) (maskFr ops f) H' ds)) (K (updO f o.dst (.tup [])) H)
def AA (P : Program) (pu : Nat → Bool) (ops : Array Oper) (Q : AQ) (ds : List ADef) : Nat → Array Bool → Fr → List Blk → Prop
  | 0, listed, f, H => Region.ready .any ops listed = [] ∧ Q .normal f H ds
  | n + 1, listed, f, H => (Region.ready .any ops listed = [] → Q .normal f H ds) ∧
    ∀ i ∈ Region.ready .any ops listed, ∃ o, ops[i]? = some o ∧ if pu i = true then ∃ r, StepD P ops o f H r ∧ AA P pu ops Q ds n (listed.setIfInBounds i true) (updO f o.dst r) H
      else StepB P ops o f H ds Q (fun f' H' => AA P pu ops Q ds n (listed.setIfInBounds i true) f' H')
section
variable {P : Program} {n : Nat} {pu : Nat → Bool} {ops : Array Oper} {Q : AQ}
theorem stepD_congr {o : Oper} {f f' : Fr} {H : List Blk} {r : AV} (hs : smallO n ops o = true) (h : ∀ t ∈ o.looksAt ops, f t = f' t) (k : StepD P ops o f H r) : StepD P ops o f' H r := by
  have he : ∀ x ∈ o.op.operands, ev f x = ev f' x := by
    intro x hx
    cases x with
    | tmp t =>
      refine h t ?_
      simp only [Oper.looksAt, List.mem_append, List.mem_filterMap]
      exact .inl ⟨.tmp t, by simpa using hx, rfl⟩
    | const x => rfl
    | global g => rfl
    | func g => rfl
  unfold StepD at k ⊢
  split at k
  · exact OpSem.congr he k
  · rename_i j want hg
    have : f (gdst ops j) = f' (gdst ops j) := by
      refine h _ ?_
      simp only [smallO, hg, Bool.and_eq_true] at hs
      have h2 := hs.2
      simp only [Oper.looksAt, List.mem_append, hg]
      right
      cases hj : (ops[j]?).bind (·.dst) with
      | none => rw [hj] at h2; simp at h2
      | some d => simp [gdst, hj]
    rw [this] at k
    unfold guardV at k ⊢
    split at k
    · exact ⟨fun hb => OpSem.congr he (k.1 hb), k.2⟩
    · exact k
    · exact k
theorem updO_of_not {f : Fr} {d : Option Nat} {r : AV} {l : List Nat} (h : ∀ t, d = some t → t ∉ l) : ∀ t ∈ l, updO f d r t = f t := by
  intro t ht
  cases d with
  | none => rfl
  | some d => simp only [updO, upd]; rw [if_neg]; rintro rfl; exact h _ rfl ht
inductive Reach (ops : Array Oper) : Nat → Nat → Prop
  | edge (j : Nat) (o : Oper) (e : Edge) (ho : ops[j]? = some o) (he : e ∈ o.after) (hb : Region.binds .any e = true) : Reach ops j e.on
  | step (j k : Nat) (o : Oper) (e : Edge) (ho : ops[j]? = some o) (he : e ∈ o.after) (hb : Region.binds .any e = true) (h : Reach ops e.on k) : Reach ops j k
def Closed (ops : Array Oper) (listed : Array Bool) : Prop := ∀ i o, ops[i]? = some o → listed.getD i false = true → ∀ e ∈ o.after, Region.binds .any e = true → listed.getD e.on false = true
theorem reach_listed {listed : Array Bool} (hc : Closed ops listed) {j k : Nat} (h : Reach ops j k) (hj : ∀ o, ops[j]? = some o → ∀ e ∈ o.after, Region.binds .any e = true → listed.getD e.on false = true) : listed.getD k false = true := by
  induction h with
  | edge j o e ho he hb => exact hj o ho e he hb
  | step j k o e ho he hb h ih => exact ih fun o' ho' e' he' hb' => hc e.on o' ho' (hj o ho e he hb) e' he' hb'
theorem getD_tf {listed : Array Bool} {i : Nat} (hi : i < listed.size) : listed.getD i true = listed.getD i false := by
  simp [Array.getD_eq_getD_getElem?, Array.getElem?_eq_getElem hi]
theorem getD_set {listed : Array Bool} {i k : Nat} (hi : i < listed.size) (b : Bool) : (listed.setIfInBounds i true).getD k b = if k = i then true else listed.getD k b := by
  by_cases h : k = i
  · subst h; simp [Array.getD_eq_getD_getElem?, Array.getElem?_setIfInBounds_self_of_lt hi]
  · rw [if_neg h, getD_set_ne b (fun e => h e.symm)]
theorem wpOp_det {B : Nat} {w0 : World} {cx0 cx : Cx} {a : Act} {f : Fr} {ds : List ADef} {i : Nat} {o : Oper} {r : AV} (ho : ops[i]? = some o) (hs : smallO n ops o = true) (hd : StepD P ops o f cx.H r)
    (h1 : HRel B w0 cx) (h2 : Le cx0 cx) (h4 : FRel cx n f a) (h5 : DRel cx ds a.defers) {next : Act → World → Prop}
    {ro : Option Nat} (hro : ro.isSome = true → noDefer o = true) (hn : ∀ cx' a', cx'.H = cx.H → HRel B w0 cx' → Le cx0 cx' → FRel cx' n (updO f o.dst r) a' → DRel cx' ds a'.defers → next a' cx'.w) : wpOpIn (Fo ro) 0 P ops (Post B w0 cx0 n Q) i next a cx.w := by
  unfold wpOpIn
  simp only [ho]
  have hs' : Oper.small n o = true := by simp only [smallO, Bool.and_eq_true] at hs; exact hs.1
  have hsd : ∀ t, o.dst = some t → t < n := fun t ht => by simp only [Oper.small, Bool.and_eq_true] at hs'; have := hs'.2; rw [ht] at this; simpa using this
  have yes : DetSem P o (ev f) cx.H r → Region.wanted o (yielded ops a.tmps) = true → (if Region.wanted o (yielded ops a.tmps) = true then o.wpIn (Fo ro) 0 P a cx.w next (Post B w0 cx0 n Q) else (∀ f, o.about P cx.w a.eval = some f → (Fo ro).fn f) ∧ next (a.put o.dst undef) cx.w) := by
    intro hh hw
    rw [if_pos hw]
    refine (opsem_wp (fp := maskFr ops f) (fun _ _ h => frel_mask ops h) (ds := ds) hs' hro (OpSem.mono (fun r' H' hk => hk) (fun _ _ hf => hf.elim) hh) h1 h2 rfl h4 h5 fun cx' r' y b1 b2 b3 b4 b5 => ?_)
    obtain ⟨rfl, hH⟩ := b3
    exact hn cx' _ hH b1 b2 b4 b5
  have no : r = .tup [] → Region.wanted o (yielded ops a.tmps) = false → (if Region.wanted o (yielded ops a.tmps) = true then o.wpIn (Fo ro) 0 P a cx.w next (Post B w0 cx0 n Q) else (∀ f, o.about P cx.w a.eval = some f → (Fo ro).fn f) ∧ next (a.put o.dst undef) cx.w) := by
    intro hh hw
    rw [if_neg (by simp [hw])]
    subst hh
    exact ⟨fun _ _ => trivial, hn cx _ rfl h1 h2 (frel_put h4 hsd (tup_nil_undef _ _)) (drel_put h5)⟩
  unfold StepD at hd
  split at hd
  · rename_i hg
    exact yes hd (by simp [Region.wanted, hg])
  · rename_i j want hg
    simp only [smallO, hg, Bool.and_eq_true] at hs
    have hs2 := hs.2
    cases hj : (ops[j]?).bind (·.dst) with
    | none => rw [hj] at hs2; simp at hs2
    | some d =>
      rw [hj] at hs2
      have hgd : gdst ops j = d := by simp [gdst, hj]
      rw [hgd] at hd
      obtain ⟨y1, y2⟩ := yielded_of (ops := ops) h4 hj (by simpa using hs2)
      unfold guardV at hd
      split at hd
      · rename_i b hb
        have := y1 b hb
        by_cases hw : b = want
        · exact yes (hd.1 hw) (by simp [Region.wanted, hg, this, hw])
        · exact no (hd.2 hw) (by simp [Region.wanted, hg, this, hw])
      · rename_i hb
        exact no hd (by simp [Region.wanted, hg, y2 hb])
      · exact hd.elim
theorem wpOp_bar {B : Nat} {w0 : World} {cx0 cx : Cx} {a : Act} {f : Fr} {ds : List ADef} {i : Nat} {o : Oper} {K : Fr → List Blk → Prop} (ho : ops[i]? = some o) (hs : smallO n ops o = true) (hd : StepB P ops o f cx.H ds Q K)
    (h1 : HRel B w0 cx) (h2 : Le cx0 cx) (h4 : FRel cx n f a) (h5 : DRel cx ds a.defers) {next : Act → World → Prop}
    {ro : Option Nat} (hro : ro.isSome = true → noDefer o = true) (hn : ∀ cx' a' f', K f' cx'.H → HRel B w0 cx' → Le cx0 cx' → FRel cx' n f' a' → DRel cx' ds a'.defers → next a' cx'.w) : wpOpIn (Fo ro) 0 P ops (Post B w0 cx0 n Q) i next a cx.w := by
  unfold wpOpIn
  simp only [ho]
  have hs' : Oper.small n o = true := by simp only [smallO, Bool.and_eq_true] at hs; exact hs.1
  have hsd : ∀ t, o.dst = some t → t < n := fun t ht => by simp only [Oper.small, Bool.and_eq_true] at hs'; have := hs'.2; rw [ht] at this; simpa using this
  have yes : OpSem P o (ev f) cx.H (fun r H' => K (updO f o.dst r) H') (fun x H' => Q (.pan x) (maskFr ops f) H' ds) → Region.wanted o (yielded ops a.tmps) = true → (if Region.wanted o (yielded ops a.tmps) = true then o.wpIn (Fo ro) 0 P a cx.w next (Post B w0 cx0 n Q) else (∀ f, o.about P cx.w a.eval = some f → (Fo ro).fn f) ∧ next (a.put o.dst undef) cx.w) := by
    intro hh hw
    rw [if_pos hw]
    exact (opsem_wp (fp := maskFr ops f) (fun _ _ h => frel_mask ops h) (ds := ds) hs' hro hh h1 h2 rfl h4 h5 fun cx' r' y b1 b2 b3 b4 b5 => hn cx' _ _ b3 b1 b2 b4 b5)
  have no : K (updO f o.dst (.tup [])) cx.H → Region.wanted o (yielded ops a.tmps) = false → (if Region.wanted o (yielded ops a.tmps) = true then o.wpIn (Fo ro) 0 P a cx.w next (Post B w0 cx0 n Q) else (∀ f, o.about P cx.w a.eval = some f → (Fo ro).fn f) ∧ next (a.put o.dst undef) cx.w) := by
    intro hh hw
    rw [if_neg (by simp [hw])]
    exact ⟨fun _ _ => trivial, hn cx _ _ hh h1 h2 (frel_put h4 hsd (tup_nil_undef _ _)) (drel_put h5)⟩
  unfold StepB at hd
  split at hd
  · rename_i hg
    exact yes hd (by simp [Region.wanted, hg])
  · rename_i j want hg
    simp only [smallO, hg, Bool.and_eq_true] at hs
    have hs2 := hs.2
    cases hj : (ops[j]?).bind (·.dst) with
    | none => rw [hj] at hs2; simp at hs2
    | some d =>
      rw [hj] at hs2
      have hgd : gdst ops j = d := by simp [gdst, hj]
      rw [hgd] at hd
      obtain ⟨y1, y2⟩ := yielded_of (ops := ops) h4 hj (by simpa using hs2)
      unfold guardV at hd
      split at hd
      · rename_i b hb
        have := y1 b hb
        by_cases hw : b = want
        · exact yes (hd.1 hw) (by simp [Region.wanted, hg, this, hw])
        · exact no (hd.2 hw) (by simp [Region.wanted, hg, this, hw])
      · rename_i hb
        exact no hd (by simp [Region.wanted, hg, y2 hb])
      · exact hd.elim
theorem stepB_mono {o : Oper} {f : Fr} {H : List Blk} {ds : List ADef} {K K' : Fr → List Blk → Prop} (hk : ∀ f H, K f H → K' f H) (h : StepB P ops o f H ds Q K) : StepB P ops o f H ds Q K' := by
  unfold StepB at h ⊢
  split at h
  · exact OpSem.mono (fun _ _ h => hk _ _ h) (fun _ _ h => h) h
  · unfold guardV at h ⊢
    split at h
    · exact ⟨fun hb => OpSem.mono (fun _ _ h => hk _ _ h) (fun _ _ h => h) (h.1 hb), fun hb => hk _ _ (h.2 hb)⟩
    · exact hk _ _ h
    · exact h
theorem aa_sound {B : Nat} {w0 : World} {cx0 : Cx} {ro : Option Nat} (hro : ∀ (i : Nat) (o : Oper), ops[i]? = some o → ro.isSome = true → noDefer o = true) (hsm : ∀ (i : Nat) (o : Oper), ops[i]? = some o → smallO n ops o = true) {ds : List ADef} : ∀ (fuel : Nat) (listed : Array Bool) (f : Fr) (cx : Cx) (a : Act),
    AA P pu ops Q ds fuel listed f cx.H → HRel B w0 cx → Le cx0 cx → FRel cx n f a → DRel cx ds a.defers → wpAnyIn (Fo ro) 0 P .any ops (Post B w0 cx0 n Q) fuel listed a cx.w
  | 0, listed, f, cx, a, h, h1, h2, h4, h5 => ⟨h.1, ⟨cx, .normal, f, ds, rfl, h1, h2, h4, h5, trivial, h.2⟩⟩
  | fuel + 1, listed, f, cx, a, h, h1, h2, h4, h5 => by
    refine ⟨fun hn => ⟨cx, .normal, f, ds, rfl, h1, h2, h4, h5, trivial, h.1 hn⟩, fun i hi => ?_⟩
    obtain ⟨o, ho, hs⟩ := h.2 i hi
    split at hs
    · obtain ⟨r, hr, hv⟩ := hs
      exact wpOp_det ho (hsm i o ho) hr h1 h2 h4 h5 (hro i o ho) fun cx' a' hH b1 b2 b3 b4 => aa_sound hro hsm fuel _ _ cx' a' (hH ▸ hv) b1 b2 b3 b4
    · exact wpOp_bar ho (hsm i o ho) hs h1 h2 h4 h5 (hro i o ho) fun cx' a' f' hK b1 b2 b3 b4 => aa_sound hro hsm fuel _ _ cx' a' hK b1 b2 b3 b4
theorem closed_set {listed : Array Bool} (hc : Closed ops listed) {j : Nat} (hj : j ∈ Region.ready .any ops listed) : Closed ops (listed.setIfInBounds j true) := by
  obtain ⟨m1, o, m2, m3⟩ := mem_ready.1 hj
  intro k ok hok hkl e he hb
  by_cases hk : k = j
  · subst hk
    rw [m2] at hok; cases hok
    exact getD_set_true (m3 e he hb)
  · rw [getD_set_ne false (fun e => hk e.symm)] at hkl
    exact getD_set_true (hc k ok hok hkl e he hb)
abbrev OPlan := List (Nat × List Nat)
def VX (P : Program) (pu : Nat → Bool) (hf : Oper → Bool) (ops : Array Oper) (Q : AQ) (ds : List ADef) : OPlan → Fr → List Blk → Prop
  | [], f, H => Q .normal f H ds
  | (i, late) :: rest, f, H => match ops[i]? with
    | none => False
    | some o => if pu i = true then ∃ r, StepD P ops o f H r ∧ (hf o = true → ∀ H', StepD P ops o f H' r) ∧ VX P pu hf ops Q ds rest (updO f o.dst r) H
      else StepB P ops o f H ds Q (fun f' H' => (∀ j ∈ late, ∀ oj, ops[j]? = some oj → ∃ r, StepD P ops oj f' H' r ∧ ∀ d, oj.dst = some d → f' d = r) ∧ VX P pu hf ops Q ds rest f' H')
def maskOf (done : List (Nat × Oper × Nat)) (k : Nat) : Nat := match done.find? (fun d => d.1 == k) with | some d => d.2.2 | none => 0
def maskE (done : List (Nat × Oper × Nat)) : List Edge → Nat
  | [] => 0
  | e :: es => if Region.binds .any e then 2 ^ e.on ||| (maskOf done e.on ||| maskE done es) else maskE done es
def mkTab (ops : Array Oper) : List (Nat × Oper × Nat) → List Nat → List (Nat × Oper × Nat)
  | done, [] => done
  | done, j :: rest => match ops[j]? with
    | none => mkTab ops done rest
    | some oj => mkTab ops ((j, oj, maskE done oj.after.toList) :: done) rest
def readyB (ops : Array Oper) (rem : List Nat) (i : Nat) : Bool := rem.contains i && match ops[i]? with | none => false | some o => o.after.toList.all fun e => !Region.binds .any e || (!rem.contains e.on && decide (e.on < ops.size))
def aloneB (ops : Array Oper) (tab : List (Nat × Oper × Nat)) (i : Nat) (oi : Oper) : Bool :=
  match oi.dst with
  | none => true
  | some d => (List.range ops.size).all fun j => match ops[j]? with
    | none => true
    | some oj => (!(oj.looksAt ops).contains d || (maskOf tab j).testBit i) && (j == i || oj.dst != some d)
def lookB (ops : Array Oper) (oj oi : Oper) : Bool := match oi.dst with | none => false | some d => (oj.looksAt ops).contains d
def planX (pu : Nat → Bool) (hf : Oper → Bool) (ops : Array Oper) (tab : List (Nat × Oper × Nat)) : List Nat → List Nat → OPlan → Bool
  | done, rem, [] => rem.isEmpty
  | done, rem, (i, late) :: rest => readyB ops rem i && (match ops[i]? with
      | none => false
      | some oi => if pu i then aloneB ops tab i oi
        else (rem.all fun j => j == i || (maskOf tab j).testBit i) && (done.all fun j => (maskOf tab i).testBit j || !pu j || (match ops[j]? with | none => false | some oj => pu j && !lookB ops oj oi && (late.contains j || hf oj)))) &&
      planX pu hf ops tab (i :: done) (rem.erase i) rest
def lateB (pu : Nat → Bool) (ops : Array Oper) (p : OPlan) : Bool := p.all fun x => x.2.all fun j => match ops[j]? with | none => true | some o => pu j
def puOf (pure : Oper → Bool) (ops : Array Oper) (i : Nat) : Bool := match ops[i]? with | none => false | some o => pure o && aloneB ops (mkTab ops [] (List.range ops.size)) i o
def planB (pu : Nat → Bool) (hf : Oper → Bool) (ops : Array Oper) (p : OPlan) : Bool :=
  planX pu hf ops (mkTab ops [] (List.range ops.size)) [] (List.range ops.size) p && lateB pu ops p && (List.range ops.size).all fun j => match ops[j]? with
    | none => true
    | some o => o.after.toList.all fun e => !Region.binds .any e || decide (e.on < j)
def TabOk (ops : Array Oper) (done : List (Nat × Oper × Nat)) : Prop := ∀ d ∈ done, ∀ k, d.2.2.testBit k = true → Reach ops d.1 k
theorem maskOf_spec {done : List (Nat × Oper × Nat)} (hd : TabOk ops done) {j k : Nat} (h : (maskOf done j).testBit k = true) : Reach ops j k := by
  unfold maskOf at h
  split at h
  · rename_i d hfd
    have hm := List.mem_of_find?_eq_some hfd
    have hk := List.find?_some hfd
    simp only [beq_iff_eq] at hk
    exact hk ▸ hd d hm k h
  · simp at h
theorem maskE_spec {done : List (Nat × Oper × Nat)} (hd : TabOk ops done) {j : Nat} {oj : Oper} (hj : ops[j]? = some oj) : ∀ (es : List Edge), (∀ e ∈ es, e ∈ oj.after) → ∀ k, (maskE done es).testBit k = true → Reach ops j k
  | [], _, k, h => by simp [maskE] at h
  | e :: es, hs, k, h => by
    simp only [maskE] at h
    split at h
    · rename_i hb
      simp only [Nat.testBit_or, Bool.or_eq_true, Nat.testBit_two_pow, decide_eq_true_eq] at h
      rcases h with rfl | h | h
      · exact .edge j oj e hj (hs e (by simp)) hb
      · exact .step j k oj e hj (hs e (by simp)) hb (maskOf_spec hd h)
      · exact maskE_spec hd hj es (fun e' he' => hs e' (by simp [he'])) k h
    · exact maskE_spec hd hj es (fun e' he' => hs e' (by simp [he'])) k h
theorem mkTab_ok : ∀ (ord : List Nat) (done : List (Nat × Oper × Nat)), TabOk ops done → TabOk ops (mkTab ops done ord)
  | [], done, h => h
  | j :: rest, done, h => by
    unfold mkTab
    split
    · exact mkTab_ok rest done h
    · rename_i oj hj
      refine mkTab_ok rest _ fun d hd k hk => ?_
      rcases List.mem_cons.1 hd with rfl | hd
      · exact maskE_spec h hj _ (fun e he => by simpa using he) k hk
      · exact h d hd k hk
theorem reach_closed {S : Nat → Prop} (hc : ∀ i o, ops[i]? = some o → S i → ∀ e ∈ o.after, Region.binds .any e = true → S e.on) {j k : Nat} (h : Reach ops j k) (hj : S j) : S k := by
  induction h with
  | edge j o e ho he hb => exact hc j o ho hj e he hb
  | step j k o e ho he hb h ih => exact ih (hc j o ho hj e he hb)
theorem stepB_congr {o : Oper} {f f' : Fr} {H : List Blk} {ds : List ADef} {K K' : Fr → List Blk → Prop} (hs : smallO n ops o = true) (h : ∀ t ∈ o.looksAt ops, f t = f' t) (hm : maskFr ops f = maskFr ops f') (hk : ∀ r H', K (updO f o.dst r) H' → K' (updO f' o.dst r) H')
    (k : StepB P ops o f H ds Q K) : StepB P ops o f' H ds Q K' := by
  have he : ∀ x ∈ o.op.operands, ev f x = ev f' x := by
    intro x hx
    cases x with
    | tmp t =>
      refine h t ?_
      simp only [Oper.looksAt, List.mem_append, List.mem_filterMap]
      exact .inl ⟨.tmp t, by simpa using hx, rfl⟩
    | const x => rfl
    | global g => rfl
    | func g => rfl
  unfold StepB at k ⊢
  split at k
  · exact OpSem.congr he (OpSem.mono (fun r H' h => hk r H' h) (fun _ _ h => by rw [← hm]; exact h) k)
  · rename_i j want hg
    have : f (gdst ops j) = f' (gdst ops j) := by
      refine h _ ?_
      simp only [smallO, hg, Bool.and_eq_true] at hs
      have h2 := hs.2
      simp only [Oper.looksAt, List.mem_append, hg]
      right
      cases hj : (ops[j]?).bind (·.dst) with
      | none => rw [hj] at h2; simp at h2
      | some d => simp [gdst, hj]
    rw [this] at k
    unfold guardV at k ⊢
    split at k
    · exact ⟨fun hb => OpSem.congr he (OpSem.mono (fun r H' h => hk r H' h) (fun _ _ h => by rw [← hm]; exact h) (k.1 hb)), fun hb => hk _ _ (k.2 hb)⟩
    · exact hk _ _ k
    · exact k
structure SInv (P : Program) (pu : Nat → Bool) (hf : Oper → Bool) (ops : Array Oper) (done rem : List Nat) (L : List Nat) (listed : Array Bool) (f fa : Fr) (H : List Blk) : Prop where
  size : listed.size = ops.size
  un : ∀ i, i < ops.size → (listed.getD i false = false ↔ (i ∈ rem ∨ i ∈ L))
  remlt : ∀ i ∈ rem, i < ops.size
  closed : Closed ops listed
  dn : ∀ i, i < ops.size → (i ∈ done ↔ i ∉ rem)
  dclosed : ∀ i o, ops[i]? = some o → i ∉ rem → ∀ e ∈ o.after, Region.binds .any e = true → e.on ∉ rem
  nodup : L.Nodup
  rnodup : rem.Nodup
  good : ∀ j ∈ L, j ∉ rem ∧ ∃ o, ops[j]? = some o ∧ pu j = true ∧ (∀ k ok d, ops[k]? = some ok → o.dst = some d → d ∈ ok.looksAt ops → Reach ops k j) ∧ (∀ k ok d, ops[k]? = some ok → k ≠ j → o.dst = some d → ok.dst ≠ some d) ∧
    ∃ r, StepD P ops o f H r ∧ (hf o = true → ∀ H', StepD P ops o f H' r) ∧ ∀ d, o.dst = some d → f d = r
  agree : ∀ t, (∀ j ∈ L, ∀ o, ops[j]? = some o → o.dst ≠ some t) → fa t = f t
theorem reach_lt (hlt : ∀ (j : Nat) (o : Oper), ops[j]? = some o → ∀ e ∈ o.after, Region.binds .any e = true → e.on < j) {j k : Nat} (h : Reach ops j k) : k < j := by
  induction h with
  | edge j o e ho he hb => exact hlt j o ho e he hb
  | step j k o e ho he hb h ih => exact Nat.lt_trans ih (hlt j o ho e he hb)
theorem vx_sound {hf : Oper → Bool} {tab : List (Nat × Oper × Nat)} (htab : TabOk ops tab) (hsm : ∀ (i : Nat) (o : Oper), ops[i]? = some o → smallO n ops o = true)
    (hlt : ∀ (j : Nat) (o : Oper), ops[j]? = some o → ∀ e ∈ o.after, Region.binds .any e = true → e.on < j) {ds : List ADef} :
    ∀ (p : OPlan) (fuel : Nat) (done rem L : List Nat) (listed : Array Bool) (f fa : Fr) (H : List Blk), planX pu hf ops tab done rem p = true → SInv P pu hf ops done rem L listed f fa H → rem.length + L.length ≤ fuel →
    VX P pu hf ops Q ds p f H → AA P pu ops Q ds fuel listed fa H := by
  -- something is ready while something is left
  have hready : ∀ (done rem L : List Nat) (listed : Array Bool) (f fa : Fr) (H : List Blk), SInv P pu hf ops done rem L listed f fa H → Region.ready .any ops listed = [] → rem = [] ∧ L = [] := by
    intro done rem L listed f fa H hi hn
    have key : ∀ i, i < ops.size → listed.getD i false = true := by
      intro i
      induction i using Nat.strongRecOn with
      | ind i ih =>
        intro hlt'
        cases hl : listed.getD i false with
        | true => rfl
        | false =>
          exfalso
          have ho : ops[i]? = some (ops[i]'hlt') := Array.getElem?_eq_getElem hlt'
          have : i ∈ Region.ready .any ops listed := mem_ready.2 ⟨by rw [getD_tf (by rw [hi.size]; exact hlt')]; exact hl, _, ho, fun e he hb => ih e.on (hlt i _ ho e he hb) (Nat.lt_trans (hlt i _ ho e he hb) hlt')⟩
          rw [hn] at this; cases this
    constructor
    · refine List.eq_nil_iff_forall_not_mem.2 fun i hir => ?_
      have hl := hi.remlt i hir
      have := (hi.un i hl).2 (.inl hir)
      rw [key i hl] at this; cases this
    · refine List.eq_nil_iff_forall_not_mem.2 fun i hiL => ?_
      obtain ⟨_, o, ho, _⟩ := hi.good i hiL
      have hl := (Array.getElem?_eq_some_iff.1 ho).1
      have := (hi.un i hl).2 (.inr hiL)
      rw [key i hl] at this; cases this
  -- an operation that may come late is done now
  have late : ∀ (done rem L : List Nat) (listed : Array Bool) (f fa : Fr) (H : List Blk) (i : Nat), SInv P pu hf ops done rem L listed f fa H → i ∈ Region.ready .any ops listed → i ∈ L →
      ∃ o r, ops[i]? = some o ∧ pu i = true ∧ StepD P ops o fa H r ∧ SInv P pu hf ops done rem (L.erase i) (listed.setIfInBounds i true) f (updO fa o.dst r) H := by
    intro done rem L listed f fa H i hi hr hiL
    obtain ⟨hirem, o, ho, hpu, hl1, hl2, r, hr1, hr2, hr3⟩ := hi.good i hiL
    have hlti := (Array.getElem?_eq_some_iff.1 ho).1
    obtain ⟨m1, o', m2, m3⟩ := mem_ready.1 hr
    rw [ho] at m2; cases m2
    have hag : ∀ t ∈ o.looksAt ops, f t = fa t := by
      intro t ht
      refine (hi.agree t fun k hk ok hok hd => ?_).symm
      obtain ⟨_, o2, ho2, _, g1, _⟩ := hi.good k hk
      rw [hok] at ho2; cases ho2
      have hre := g1 i o t ho hd ht
      have hkl := reach_listed hi.closed hre fun o3 h3 e he hb => by rw [ho] at h3; cases h3; exact m3 e he hb
      have := (hi.un k (Array.getElem?_eq_some_iff.1 hok).1).2 (.inr hk)
      rw [hkl] at this; cases this
    refine ⟨o, r, ho, hpu, stepD_congr (hsm i o ho) hag hr1, by simp [hi.size], fun k hk => ?_, hi.remlt, closed_set hi.closed hr, hi.dn, hi.dclosed, hi.nodup.erase i, hi.rnodup, fun k hk => hi.good k (List.mem_of_mem_erase hk), fun t ht => ?_⟩
    · rw [getD_set (by rw [hi.size]; exact hlti), hi.nodup.mem_erase_iff]
      by_cases hki : k = i
      · subst hki; simp [hirem]
      · rw [if_neg hki, hi.un k hk]; simp [hki]
    · cases hd : o.dst with
      | none =>
        refine hi.agree t fun k hk ok hok => ?_
        by_cases hki : k = i
        · subst hki; rw [ho] at hok; cases hok; rw [hd]; simp
        · exact ht k (hi.nodup.mem_erase_iff.2 ⟨hki, hk⟩) ok hok
      | some d =>
        simp only [updO, upd]
        by_cases htd : t = d
        · subst htd; rw [if_pos rfl]; exact (hr3 _ hd).symm
        · rw [if_neg htd]
          refine hi.agree t fun k hk ok hok => ?_
          by_cases hki : k = i
          · subst hki; rw [ho] at hok; cases hok; rw [hd]; simpa using fun e => htd e.symm
          · exact ht k (hi.nodup.mem_erase_iff.2 ⟨hki, hk⟩) ok hok
  intro p
  induction p with
  | nil =>
    intro fuel
    induction fuel with
    | zero =>
      intro done rem L listed f fa H hc hi hfu hv
      have hL : L = [] := List.eq_nil_of_length_eq_zero (by omega)
      have hR : rem = [] := List.eq_nil_of_length_eq_zero (by omega)
      subst hL; subst hR
      have hfa : fa = f := funext fun t => hi.agree t fun j hj => (by cases hj)
      subst hfa
      refine ⟨List.eq_nil_iff_forall_not_mem.2 fun i hir => ?_, hv⟩
      obtain ⟨m1, o, m2, m3⟩ := mem_ready.1 hir
      have hl := (Array.getElem?_eq_some_iff.1 m2).1
      rw [getD_tf (by rw [hi.size]; exact hl)] at m1
      have := (hi.un i hl).1 m1
      simp at this
    | succ fuel ih =>
      intro done rem L listed f fa H hc hi hfu hv
      refine ⟨fun hn => ?_, fun i hir => ?_⟩
      · obtain ⟨rfl, rfl⟩ := hready _ _ _ _ _ _ _ hi hn
        have hfa : fa = f := funext fun t => hi.agree t fun j hj => (by cases hj)
        subst hfa; exact hv
      · have hrem : rem = [] := by simpa [planX] using hc
        obtain ⟨m1, o, m2, m3⟩ := mem_ready.1 hir
        have hl := (Array.getElem?_eq_some_iff.1 m2).1
        rw [getD_tf (by rw [hi.size]; exact hl)] at m1
        have hiL : i ∈ L := by
          rcases (hi.un i hl).1 m1 with h | h
          · rw [hrem] at h; cases h
          · exact h
        obtain ⟨o', r, ho, hpu, hst, hinv⟩ := late _ _ _ _ _ _ _ i hi hir hiL
        refine ⟨o', ho, ?_⟩
        rw [if_pos hpu]
        have hlen := List.length_erase_of_mem hiL
        have hpos := List.length_pos_of_mem hiL
        exact ⟨r, hst, ih _ _ _ _ _ _ _ hc hinv (by omega) hv⟩
  | cons x p ihp =>
    obtain ⟨i0, lt⟩ := x
    intro fuel
    induction fuel with
    | zero =>
      intro done rem L listed f fa H hc hi hfu hv
      exfalso
      simp only [planX, readyB, Bool.and_eq_true, List.contains_iff_mem] at hc
      have := List.length_pos_of_mem hc.1.1.1
      omega
    | succ fuel ih =>
      intro done rem L listed f fa H hc hi hfu hv
      have hc0 := hc
      simp only [planX, Bool.and_eq_true] at hc
      obtain ⟨⟨hrd, hop⟩, hrest⟩ := hc
      have hrd' := hrd
      simp only [readyB, Bool.and_eq_true, List.contains_iff_mem] at hrd'
      obtain ⟨hi0r, hedges⟩ := hrd'
      have hi0l := hi.remlt _ hi0r
      have ho0 : ops[i0]? = some (ops[i0]'hi0l) := Array.getElem?_eq_getElem hi0l
      generalize ops[i0]'hi0l = oi at ho0
      have hlen0 := List.length_erase_of_mem hi0r
      have hpos0 := List.length_pos_of_mem hi0r
      rw [ho0] at hop hedges
      simp only at hop hedges
      simp only [VX, ho0] at hv
      have hed : ∀ e ∈ oi.after, Region.binds .any e = true → e.on ∉ rem := by
        intro e he hb hm
        have := List.all_eq_true.1 hedges e (by simpa using he)
        simp only [hb, Bool.not_true, Bool.false_or, Bool.and_eq_true, Bool.not_eq_true'] at this
        rw [List.contains_iff_mem.2 hm] at this; exact absurd this.1 (by simp)
      have hdn : ∀ i, i < ops.size → (i ∈ i0 :: done ↔ i ∉ rem.erase i0) := by
        intro i hil
        rw [hi.rnodup.mem_erase_iff, List.mem_cons, hi.dn i hil]
        by_cases h : i = i0
        · subst h; simp
        · simp [h]
      have hdc : ∀ i o, ops[i]? = some o → i ∉ rem.erase i0 → ∀ e ∈ o.after, Region.binds .any e = true → e.on ∉ rem.erase i0 := by
        intro i o ho hnm e he hb hm
        have hm' := List.mem_of_mem_erase hm
        by_cases h : i = i0
        · subst h; rw [ho0] at ho; cases ho; exact hed e he hb hm'
        · refine hi.dclosed i o ho (fun hir => hnm (hi.rnodup.mem_erase_iff.2 ⟨h, hir⟩)) e he hb hm'
      by_cases hpu : pu i0 = true
      · -- the plan goes on by itself
        rw [if_pos hpu] at hop hv
        obtain ⟨r, hr1, hr2, hv'⟩ := hv
        have hal1 : ∀ k ok d, ops[k]? = some ok → oi.dst = some d → d ∈ ok.looksAt ops → Reach ops k i0 := by
          intro k ok d hok hd hm
          simp only [aloneB, hd, List.all_eq_true, List.mem_range] at hop
          have := hop k (Array.getElem?_eq_some_iff.1 hok).1
          rw [hok] at this
          simp only [Bool.and_eq_true, Bool.or_eq_true, Bool.not_eq_true'] at this
          rcases this.1 with h | h
          · rw [List.contains_iff_mem.2 hm] at h; cases h
          · exact maskOf_spec htab h
        have hal2 : ∀ k ok d, ops[k]? = some ok → k ≠ i0 → oi.dst = some d → ok.dst ≠ some d := by
          intro k ok d hok hne hd
          simp only [aloneB, hd, List.all_eq_true, List.mem_range] at hop
          have := hop k (Array.getElem?_eq_some_iff.1 hok).1
          rw [hok] at this
          simp only [Bool.and_eq_true, Bool.or_eq_true, beq_iff_eq, bne_iff_ne] at this
          exact this.2.resolve_left hne
        have hun : ∀ o : Oper, (∃ j, ops[j]? = some o ∧ ¬ Reach ops j i0) → ∀ t ∈ o.looksAt ops, f t = updO f oi.dst r t := by
          rintro o ⟨j, hj, hnr⟩ t ht
          refine (updO_of_not (l := o.looksAt ops) (fun d hd hm => hnr (hal1 j o d hj hd hm)) t ht).symm
        refine ihp (fuel + 1) (i0 :: done) (rem.erase i0) (i0 :: L) listed (updO f oi.dst r) fa H hrest ?_ (by simp; omega) hv'
        have hi0L : i0 ∉ L := fun h => (hi.good i0 h).1 hi0r
        refine ⟨hi.size, fun i hil => ?_, fun i h => hi.remlt i (List.mem_of_mem_erase h), hi.closed, hdn, hdc, List.nodup_cons.2 ⟨hi0L, hi.nodup⟩, hi.rnodup.erase i0, fun j hj => ?_, fun t ht => ?_⟩
        · rw [hi.un i hil, hi.rnodup.mem_erase_iff, List.mem_cons]
          by_cases h : i = i0
          · subst h; simp [hi0r]
          · simp [h]
        · rcases List.mem_cons.1 hj with rfl | hj
          · refine ⟨fun h => (hi.rnodup.mem_erase_iff.1 h).1 rfl, oi, ho0, hpu, hal1, hal2, r, ?_, ?_, ?_⟩
            · exact stepD_congr (hsm _ _ ho0) (hun oi ⟨_, ho0, fun h => Nat.lt_irrefl _ (reach_lt hlt h)⟩) hr1
            · exact fun h H' => stepD_congr (hsm _ _ ho0) (hun oi ⟨_, ho0, fun h => Nat.lt_irrefl _ (reach_lt hlt h)⟩) (hr2 h H')
            · intro d hd; simp [updO, upd, hd]
          · obtain ⟨hjr, o, ho, g1, g2, g3, r', h1, h2, h3⟩ := hi.good j hj
            have hnr : ¬ Reach ops j i0 := fun h => reach_closed (S := fun k => k ∉ rem) (fun i o ho hn e he hb => hi.dclosed i o ho hn e he hb) h hjr hi0r
            refine ⟨fun h => hjr (List.mem_of_mem_erase h), o, ho, g1, g2, g3, r', stepD_congr (hsm _ _ ho) (hun o ⟨j, ho, hnr⟩) h1, fun h H' => stepD_congr (hsm _ _ ho) (hun o ⟨j, ho, hnr⟩) (h2 h H'), fun d hd => ?_⟩
            have hne : oi.dst ≠ some d := g3 i0 oi d ho0 (fun e => hjr (e ▸ hi0r)) hd
            rw [← h3 d hd]
            cases hd0 : oi.dst with
            | none => rfl
            | some d0 => simp only [updO, upd]; rw [if_neg]; rintro rfl; exact hne hd0
        · have e1 : fa t = f t := hi.agree t fun j hj o ho => ht j (List.mem_cons_of_mem _ hj) o ho
          rw [e1]
          have e2 := ht i0 (by simp) oi ho0
          cases hd0 : oi.dst with
          | none => rfl
          | some d0 => simp only [updO, upd]; rw [if_neg]; rintro rfl; exact e2 hd0
      · -- the next operation that changes something
        rw [if_neg hpu] at hv
        simp only [hpu, Bool.false_eq_true, if_false, Bool.and_eq_true, List.all_eq_true, Bool.or_eq_true, beq_iff_eq] at hop
        obtain ⟨hop1, hop2⟩ := hop
        refine ⟨fun hn => ?_, fun i hir => ?_⟩
        · obtain ⟨rfl, _⟩ := hready _ _ _ _ _ _ _ hi hn
          cases hi0r
        · obtain ⟨m1, o, m2, m3⟩ := mem_ready.1 hir
          have hil := (Array.getElem?_eq_some_iff.1 m2).1
          rw [getD_tf (by rw [hi.size]; exact hil)] at m1
          rcases (hi.un i hil).1 m1 with hm | hm
          · have hii : i = i0 := by
              rcases hop1 i hm with h | h
              · exact h
              · exfalso
                have := reach_listed hi.closed (maskOf_spec htab h) fun o' ho' e he hb => m3 e (by rw [m2] at ho'; cases ho'; exact he) hb
                have h2 := (hi.un i0 hi0l).2 (.inl hi0r)
                rw [this] at h2; cases h2
            subst hii
            rw [ho0] at m2; cases m2
            refine ⟨oi, ho0, ?_⟩
            rw [if_neg hpu]
            have hag : ∀ t ∈ oi.looksAt ops, f t = fa t := by
              intro t ht
              refine (hi.agree t fun k hk ok hok hd => ?_).symm
              obtain ⟨_, o2, ho2, _, g1, _⟩ := hi.good k hk
              rw [hok] at ho2; cases ho2
              have hre := g1 i oi t ho0 hd ht
              have hkl := reach_listed hi.closed hre fun o3 h3 e he hb => by rw [ho0] at h3; cases h3; exact m3 e he hb
              have := (hi.un k (Array.getElem?_eq_some_iff.1 hok).1).2 (.inr hk)
              rw [hkl] at this; cases this
            have hmask : maskFr ops f = maskFr ops fa := by
              funext t
              unfold maskFr
              split
              · rfl
              · rename_i hno
                refine (hi.agree t fun j hj o ho hd => hno ?_).symm
                rw [Array.any_eq_true']
                exact ⟨o, Array.mem_of_getElem? ho, by simp [hd]⟩
            refine stepB_congr (hsm _ _ ho0) hag hmask (fun r H' hk => ?_) hv
            obtain ⟨hlate, hv'⟩ := hk
            refine ihp fuel (i :: done) (rem.erase i) L _ (updO f oi.dst r) (updO fa oi.dst r) H' hrest ?_ (by omega) hv'
            refine ⟨by simp [hi.size], fun k hkl => ?_, fun k h => hi.remlt k (List.mem_of_mem_erase h), closed_set hi.closed hir, hdn, hdc, hi.nodup, hi.rnodup.erase i, fun j hj => ?_, fun t ht => ?_⟩
            · rw [getD_set (by rw [hi.size]; exact hi0l), hi.rnodup.mem_erase_iff]
              by_cases h : k = i
              · subst h; simp; exact fun h => (hi.good k h).1 hi0r
              · rw [if_neg h, hi.un k hkl]; simp [h]
            · obtain ⟨hjr, o, ho, g1, g2, g3, r', h1, h2, h3⟩ := hi.good j hj
              have hjl := (Array.getElem?_eq_some_iff.1 ho).1
              have hjd : j ∈ done := (hi.dn j hjl).2 hjr
              have hnre : (maskOf tab i).testBit j ≠ true := fun h => by
                have := reach_listed hi.closed (maskOf_spec htab h) fun o' ho' e he hb => m3 e (by rw [ho0] at ho'; cases ho'; exact he) hb
                have h2 := (hi.un j hjl).2 (.inr hj)
                rw [this] at h2; cases h2
              have hcl := (hop2 j hjd).resolve_left (fun h => h.elim hnre fun h => by rw [(hi.good j hj).2.choose_spec.2.1] at h; cases h)
              rw [ho] at hcl
              simp only [Bool.and_eq_true, Bool.or_eq_true, Bool.not_eq_true'] at hcl
              obtain ⟨⟨_, hlook⟩, hlf⟩ := hcl
              have hun : ∀ t ∈ o.looksAt ops, f t = updO f oi.dst r t := by
                intro t ht
                refine (updO_of_not (l := o.looksAt ops) (fun d hd hm => ?_) t ht).symm
                simp only [lookB, hd] at hlook
                rw [List.contains_iff_mem.2 hm] at hlook; cases hlook
              have hdst : ∀ d, o.dst = some d → updO f oi.dst r d = f d := by
                intro d hd
                have hne : oi.dst ≠ some d := g3 i oi d ho0 (fun e => hjr (e ▸ hi0r)) hd
                cases hd0 : oi.dst with
                | none => rfl
                | some d0 => simp only [updO, upd]; rw [if_neg]; rintro rfl; exact hne hd0
              refine ⟨fun h => hjr (List.mem_of_mem_erase h), o, ho, g1, g2, g3, ?_⟩
              by_cases hh : hf o = true
              · exact ⟨r', stepD_congr (hsm _ _ ho) hun (h2 hh H'), fun h H'' => stepD_congr (hsm _ _ ho) hun (h2 h H''), fun d hd => by rw [hdst d hd]; exact h3 d hd⟩
              · have hjlate : j ∈ lt := List.contains_iff_mem.1 (hlf.resolve_right hh)
                obtain ⟨r2, q1, q2⟩ := hlate j hjlate o ho
                exact ⟨r2, q1, fun h => absurd h hh, q2⟩
            · cases hd0 : oi.dst with
              | none => exact hi.agree t ht
              | some d0 =>
                simp only [updO, upd]
                by_cases htd : t = d0
                · rw [if_pos htd, if_pos htd]
                · rw [if_neg htd, if_neg htd]; exact hi.agree t ht
          · obtain ⟨o', r, ho, hpu', hst, hinv⟩ := late _ _ _ _ _ _ _ i hi hir hm
            refine ⟨o', ho, ?_⟩
            rw [if_pos hpu']
            have hlen := List.length_erase_of_mem hm
            have hpos := List.length_pos_of_mem hm
            refine ⟨r, hst, ih done rem (L.erase i) _ f _ H hc0 hinv (by omega) ?_⟩
            simp only [VX, ho0, if_neg hpu]
            exact hv
theorem awp_region_draw {hf : Oper → Bool} {id : Nat} {p : OPlan} {f : Fr} {H : List Blk} {ds : List ADef} (hm : P.follows .mixedOrders = true) (hsm : ∀ (i : Nat) (o : Oper), ops[i]? = some o → smallO n ops o = true) (hd : planB pu hf ops p = true)
    (hv : VX P pu hf ops Q ds p f H) : AWP P n (.region id ops true) Q f H ds := by
  intro ro hro B w0 cx0 cx a h1 h2 h3 h4 h5
  subst h3
  simp only [planB, Bool.and_eq_true] at hd
  rw [List.all_eq_true] at hd
  simp only [List.mem_range] at hd
  refine wpIn_region_any hm ?_
  refine aa_sound (P := P) (pu := pu) (Q := Q) (B := B) (w0 := w0) (cx0 := cx0) (ro := ro) (fun i o ho hs => by have := hro hs; simp only [noDefC, List.all_eq_true] at this; exact this o (by simpa using Array.mem_of_getElem? ho)) hsm ops.size (Array.replicate ops.size false) f cx.drew a ?_ (hrel_drew h1) (h2.trans (le_drew cx)) (h4.mono (le_drew cx)) (h5.mono (le_drew cx))
  refine vx_sound (hf := hf) (mkTab_ok (List.range ops.size) [] (fun d hd => (by cases hd))) hsm (fun j o ho e he hb => ?_) p ops.size [] (List.range ops.size) [] _ f f cx.H hd.1.1 ⟨by simp, fun i hi => ?_, fun i hi => by simpa using hi, fun i o ho hl => ?_, fun i hi => by simp [hi], fun i o ho hn => ?_, List.nodup_nil, List.nodup_range, fun j hj => (by cases hj), fun t _ => rfl⟩ (by simp) hv
  · have := hd.2 j (Array.getElem?_eq_some_iff.1 ho).1
    rw [ho] at this
    simp only [List.all_eq_true] at this
    have := this e (by simpa using he)
    simpa [hb] using this
  · simp [Array.getD_eq_getD_getElem?, Array.getElem?_replicate, hi]
  · exfalso
    have hlt : i < ops.size := (Array.getElem?_eq_some_iff.1 ho).1
    simp [Array.getD_eq_getD_getElem?, Array.getElem?_replicate, hlt] at hl
  · exfalso
    exact hn (by simpa using (Array.getElem?_eq_some_iff.1 ho).1)
end
end Go.Mu
