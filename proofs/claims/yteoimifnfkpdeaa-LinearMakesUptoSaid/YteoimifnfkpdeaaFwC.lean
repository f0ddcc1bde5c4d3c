/- Code over abstract values: what must hold for a run to come to what is said, and the rules. -/
import Derived.Test.YteoimifnfkpdeaaFwB
import Derived.Deep.LoopGhost
set_option linter.unusedVariables false
set_option linter.unusedSimpArgs false
namespace Go.Mu
open Go.RowKit (Below)

inductive AX where
  | normal
  | exit (id : Nat)
  | goto (l : Nat)
  | ret
  | pan (x : AV)

inductive AE where
  | ret (x : AV)
  | pan (x : AV)

abbrev Fr := Nat → AV
structure ADef where
  fid : FuncId
  args : List AV
abbrev AQ := AX → Fr → List Blk → List ADef → Prop

def FRel (cx : Cx) (n : Nat) (f : Fr) (a : Act) : Prop := a.tmps.size = n ∧ ∀ t, t < n → Rep cx false (f t) (a.tmps.getD t undef)
def DRel (cx : Cx) : List ADef → List Deferred → Prop
  | [], [] => True
  | d :: ds, e :: es => (∃ cap : Array Value, e.target = .fn (.func d.fid) cap ∧ RepL cx false d.args (e.args ++ cap).toList) ∧ DRel cx ds es
  | _, _ => False
def XRel (cx : Cx) : Exit → AX → Prop
  | .normal, .normal => True
  | .exit i, .exit j => i = j
  | .goto i, .goto j => i = j
  | .ret, .ret => True
  | .panic ch, .pan x => ∃ y, ch = [{ v := y, recovered := false }] ∧ Rep cx false x y
  | _, _ => False

/-- A frame, but for the slots that a region's operations write. -/
def maskFr (ops : Array Oper) (f : Fr) : Fr := fun t => if ops.any (fun o => o.dst == some t) then .junk else f t
theorem frel_mask {cx : Cx} {n : Nat} {f : Fr} {a : Act} (ops : Array Oper) (h : FRel cx n f a) : FRel cx n (maskFr ops f) a :=
  ⟨h.1, fun t ht => by unfold maskFr; split; exact .junk _; exact h.2 t ht⟩

theorem FRel.mono {cx cx' : Cx} (hle : Le cx cx') {n : Nat} {f : Fr} {a : Act} (h : FRel cx n f a) : FRel cx' n f a := ⟨h.1, fun t ht => (h.2 t ht).mono hle⟩
theorem DRel.mono {cx cx' : Cx} (hle : Le cx cx') : ∀ {ds : List ADef} {es : List Deferred}, DRel cx ds es → DRel cx' ds es
  | [], [], _ => trivial
  | d :: ds, e :: es, h => ⟨let ⟨cap, h1, h2⟩ := h.1; ⟨cap, h1, h2.mono hle⟩, DRel.mono (ds := ds) (es := es) hle h.2⟩
  | [], _ :: _, h => h.elim
  | _ :: _, [], h => h.elim

/-- What holds where a piece of code is left. -/
def Post (B : Nat) (w0 : World) (cx : Cx) (n : Nat) (Q : AQ) (e : Exit) (a' : Act) (w' : World) : Prop :=
  ∃ cx' x f' ds', cx'.w = w' ∧ HRel B w0 cx' ∧ Le cx cx' ∧ FRel cx' n f' a' ∧ DRel cx' ds' a'.defers ∧ XRel cx' e x ∧ Q x f' cx'.H ds'

def AWP (P : Program) (n : Nat) (c : Code) (Q : AQ) (f : Fr) (H : List Blk) (ds : List ADef) : Prop :=
  ∀ B w0 cx0 cx a, HRel B w0 cx → Le cx0 cx → cx.H = H → FRel cx n f a → DRel cx ds a.defers → c.wp P (Post B w0 cx0 n Q) a cx.w

def AWL (P : Program) (n : Nat) (ops : Array Oper) (rest : List Oper) (Q : AQ) (f : Fr) (H : List Blk) (ds : List ADef) : Prop :=
  ∀ B w0 cx0 cx a, HRel B w0 cx → Le cx0 cx → cx.H = H → FRel cx n f a → DRel cx ds a.defers → wpList P ops (Post B w0 cx0 n Q) rest a cx.w

/-- A call: what it comes to, whatever the memory that its arguments lie in. -/
def EndRel (B : Nat) (w0 : World) (cx : Cx) (R : AE → List Blk → Prop) (e : Ending) (w' : World) : Prop :=
  match e with
  | .returned y => ∃ cx' r, cx'.w = w' ∧ HRel B w0 cx' ∧ Le cx cx' ∧ Rep cx' false r y ∧ R (.ret r) cx'.H
  | .panicked ch => ∃ cx' x y, cx'.w = w' ∧ HRel B w0 cx' ∧ Le cx cx' ∧ ch = [{ v := y, recovered := false }] ∧ Rep cx' false x y ∧ R (.pan x) cx'.H
  | .outgrown => False
def ACalls (P : Program) (fid : FuncId) (args : List AV) (H : List Blk) (R : AE → List Blk → Prop) : Prop :=
  ∀ B w0 cx vals, HRel B w0 cx → cx.H = H → RepL cx false args vals → Calls P fid vals.toArray cx.w (EndRel B w0 cx R)

theorem ACalls.mono {P : Program} {fid : FuncId} {args : List AV} {H : List Blk} {R R' : AE → List Blk → Prop} (h : ACalls P fid args H R) (hr : ∀ e H', R e H' → R' e H') : ACalls P fid args H R' := by
  intro B w0 cx vals h1 h2 h3
  refine (h B w0 cx vals h1 h2 h3).mono fun e w' he => ?_
  cases e with
  | returned y => obtain ⟨cx', r, a1, a2, a3, a4, a5⟩ := he; exact ⟨cx', r, a1, a2, a3, a4, hr _ _ a5⟩
  | panicked ch => obtain ⟨cx', x, y, a1, a2, a3, a4, a5, a6⟩ := he; exact ⟨cx', x, y, a1, a2, a3, a4, a5, hr _ _ a6⟩
  | outgrown => exact he

section
variable {P : Program} {n : Nat}

theorem Post.of_le {B : Nat} {w0 : World} {cx cx' : Cx} {Q : AQ} {e : Exit} {a' : Act} {w' : World} (hle : Le cx cx') (h : Post B w0 cx' n Q e a' w') : Post B w0 cx n Q e a' w' := by
  obtain ⟨c, x, f', ds', h1, h2, h3, h4⟩ := h
  exact ⟨c, x, f', ds', h1, h2, hle.trans h3, h4⟩

theorem AWP.mono {c : Code} {Q Q' : AQ} {f : Fr} {H : List Blk} {ds : List ADef} (h : AWP P n c Q f H ds) (hq : ∀ x f H ds, Q x f H ds → Q' x f H ds) : AWP P n c Q' f H ds := by
  intro B w0 cx0 cx a h1 h2 h3 h4 h5
  refine wp_mono (h B w0 cx0 cx a h1 h2 h3 h4 h5) fun e a' w' hp => ?_
  obtain ⟨cx', x, f', ds', a1, a2, a3, a4, a5, a6, a7⟩ := hp
  exact ⟨cx', x, f', ds', a1, a2, a3, a4, a5, a6, hq _ _ _ _ a7⟩

theorem awp_skip {Q : AQ} {f : Fr} {H : List Blk} {ds : List ADef} (h : Q .normal f H ds) : AWP P n .skip Q f H ds :=
  fun B w0 cx0 cx a h1 h2 h3 h4 h5 => wp_skip ⟨cx, .normal, f, ds, rfl, h1, h2, h4, h5, trivial, h3 ▸ h⟩
theorem awp_label {l : Nat} {Q : AQ} {f : Fr} {H : List Blk} {ds : List ADef} (h : Q .normal f H ds) : AWP P n (.label l) Q f H ds :=
  fun B w0 cx0 cx a h1 h2 h3 h4 h5 => wp_label ⟨cx, .normal, f, ds, rfl, h1, h2, h4, h5, trivial, h3 ▸ h⟩
theorem awp_exit {id : Nat} {Q : AQ} {f : Fr} {H : List Blk} {ds : List ADef} (h : Q (.exit id) f H ds) : AWP P n (.exit id) Q f H ds :=
  fun B w0 cx0 cx a h1 h2 h3 h4 h5 => wp_exit ⟨cx, .exit id, f, ds, rfl, h1, h2, h4, h5, rfl, h3 ▸ h⟩
theorem awp_goto {l : Nat} {Q : AQ} {f : Fr} {H : List Blk} {ds : List ADef} (h : Q (.goto l) f H ds) : AWP P n (.goto l) Q f H ds :=
  fun B w0 cx0 cx a h1 h2 h3 h4 h5 => wp_goto ⟨cx, .goto l, f, ds, rfl, h1, h2, h4, h5, rfl, h3 ▸ h⟩
theorem awp_ret {Q : AQ} {f : Fr} {H : List Blk} {ds : List ADef} (h : Q .ret f H ds) : AWP P n .ret Q f H ds :=
  fun B w0 cx0 cx a h1 h2 h3 h4 h5 => wp_ret ⟨cx, .ret, f, ds, rfl, h1, h2, h4, h5, trivial, h3 ▸ h⟩

/-- What goes on behind a piece of code. -/
def thenQ (k : Fr → List Blk → List ADef → Prop) (Q : AQ) : AQ := fun x f H ds => match x with | .normal => k f H ds | x => Q x f H ds
def blockQ (id : Nat) (Q : AQ) : AQ := fun x f H ds => match x with | .exit i => if i = id then Q .normal f H ds else Q (.exit i) f H ds | x => Q x f H ds

theorem awp_seq {x y : Code} {Q : AQ} {f : Fr} {H : List Blk} {ds : List ADef} (h : AWP P n x (thenQ (AWP P n y Q) Q) f H ds) : AWP P n (.seq x y) Q f H ds := by
  intro B w0 cx0 cx a h1 h2 h3 h4 h5
  refine wp_seq (wp_mono (h B w0 cx0 cx a h1 h2 h3 h4 h5) fun e a' w' hp => ?_)
  obtain ⟨cx', ax, f', ds', a1, a2, a3, a4, a5, a6, a7⟩ := hp
  cases e <;> cases ax <;> try exact a6.elim
  · simp only [Exit.then]
    rw [← a1]
    exact (show AWP P n y Q f' cx'.H ds' from a7) B w0 cx0 cx' a' a2 a3 rfl a4 a5
  all_goals exact ⟨cx', _, f', ds', a1, a2, a3, a4, a5, a6, a7⟩

theorem awp_block {id : Nat} {c : Code} {Q : AQ} {f : Fr} {H : List Blk} {ds : List ADef} (h : AWP P n c (blockQ id Q) f H ds) : AWP P n (.block id c) Q f H ds := by
  intro B w0 cx0 cx a h1 h2 h3 h4 h5
  refine wp_block (wp_mono (h B w0 cx0 cx a h1 h2 h3 h4 h5) fun e a' w' hp => ?_)
  obtain ⟨cx', ax, f', ds', a1, a2, a3, a4, a5, a6, a7⟩ := hp
  cases e <;> cases ax <;> try exact a6.elim
  case exit.exit i j =>
    obtain rfl : i = j := a6
    simp only [Exit.inBlock]
    simp only [blockQ] at a7
    split
    · rename_i hi
      rw [if_pos hi] at a7
      exact ⟨cx', .normal, f', ds', a1, a2, a3, a4, a5, trivial, a7⟩
    · rename_i hi
      rw [if_neg hi] at a7
      exact ⟨cx', .exit i, f', ds', a1, a2, a3, a4, a5, rfl, a7⟩
  all_goals exact ⟨cx', _, f', ds', a1, a2, a3, a4, a5, a6, a7⟩

theorem awp_loop {c : Code} {Q : AQ} (I : Nat → Fr → List Blk → List ADef → Prop)
    (round : ∀ m f H ds, I m f H ds → AWP P n c (thenQ (fun f' H' ds' => ∃ m', m' < m ∧ I m' f' H' ds') Q) f H ds) {m : Nat} {f : Fr} {H : List Blk} {ds : List ADef} (h : I m f H ds) :
    AWP P n (.loop c) Q f H ds := by
  intro B w0 cx0 cx a h1 h2 h3 h4 h5
  refine wp_loop_ghost (fun m a w => ∃ cx f ds, cx.w = w ∧ HRel B w0 cx ∧ Le cx0 cx ∧ FRel cx n f a ∧ DRel cx ds a.defers ∧ I m f cx.H ds) m ⟨cx, f, ds, rfl, h1, h2, h4, h5, h3 ▸ h⟩ ?_
  rintro m a w ⟨cx, f, ds, rfl, h1, h2, h4, h5, hI⟩
  refine wp_mono (round m f cx.H ds hI B w0 cx0 cx a h1 h2 rfl h4 h5) fun e a' w' hp => ?_
  obtain ⟨cx', ax, f', ds', a1, a2, a3, a4, a5, a6, a7⟩ := hp
  cases e <;> cases ax <;> try exact a6.elim
  · obtain ⟨m', hlt, hI'⟩ := a7
    exact ⟨m', hlt, cx', f', ds', a1, a2, a3, a4, a5, hI'⟩
  all_goals exact ⟨cx', _, f', ds', a1, a2, a3, a4, a5, a6, a7⟩

def opOk (n : Nat) : Operand → Bool
  | .tmp t => t < n
  | _ => true
def ev (f : Fr) : Operand → AV
  | .tmp t => f t
  | .const x => .v x
  | .global g => .v (.pointer (some ⟨g, 0, none⟩))
  | .func g => .fn (.func g) [] []
theorem ev_rep {cx : Cx} {f : Fr} {a : Act} (h : FRel cx n f a) {x : Operand} (hx : opOk n x = true) : Rep cx false (ev f x) (a.eval x) := by
  cases x with
  | tmp t => exact h.2 t (by simpa [opOk] using hx)
  | const x => exact .v x
  | global g => exact .v _
  | func g => exact .fn _ [] [] [] [] rfl (fun j c x h => by simp at h) rfl (fun j c x h => by simp at h)

/-- A test. -/
def condV (x : AV) (yes no : Prop) : Prop := match x with | .v (.bool true) => yes | .v (.bool false) => no | _ => False
theorem awp_cond {c : Operand} {x y : Code} {Q : AQ} {f : Fr} {H : List Blk} {ds : List ADef} (hc : opOk n c = true) (h : condV (ev f c) (AWP P n x Q f H ds) (AWP P n y Q f H ds)) : AWP P n (.cond c x y) Q f H ds := by
  intro B w0 cx0 cx a h1 h2 h3 h4 h5
  have hr := ev_rep h4 hc
  generalize hv : ev f c = v at h hr
  generalize hy : a.eval c = y at hr
  unfold condV at h
  split at h
  · cases hr; exact wp_cond_true hy (h B w0 cx0 cx a h1 h2 h3 h4 h5)
  · cases hr; exact wp_cond_false hy (h B w0 cx0 cx a h1 h2 h3 h4 h5)
  · exact h.elim

def upd (f : Fr) (d : Nat) (x : AV) : Fr := fun t => if t = d then x else f t
def updO (f : Fr) (d : Option Nat) (x : AV) : Fr := match d with | some d => upd f d x | none => f
theorem frel_put {cx : Cx} {f : Fr} {a : Act} (h : FRel cx n f a) {d : Option Nat} {x : AV} {y : Value} (hd : ∀ t, d = some t → t < n) (hr : Rep cx false x y) : FRel cx n (updO f d x) (a.put d y) := by
  cases d with
  | none => exact h
  | some d =>
    refine ⟨by simp [Act.put, h.1], fun t ht => ?_⟩
    have hdn := hd d rfl
    simp only [Act.put, updO, upd]
    by_cases e : t = d
    · subst e
      simp only [if_true]
      rw [Array.getD_eq_getD_getElem?, Array.getElem?_setIfInBounds_self_of_lt (by rw [h.1]; exact hdn)]
      exact hr
    · simp only [if_neg e]
      rw [Array.getD_eq_getD_getElem?, Array.getElem?_setIfInBounds_ne (fun e' => e e'.symm), ← Array.getD_eq_getD_getElem?]
      exact h.2 t ht
theorem drel_put {cx : Cx} {ds : List ADef} {a : Act} {d : Option Nat} {y : Value} (h : DRel cx ds a.defers) : DRel cx ds (a.put d y).defers := by
  cases d <;> exact h

/-- What one operation comes to. -/
def OpSem (P : Program) (o : Oper) (ρ : Operand → AV) (H : List Blk) (K : AV → List Blk → Prop) (pan : AV → List Blk → Prop) : Prop :=
  ∀ B w0 cx (ρc : Operand → Value), HRel B w0 cx → cx.H = H → (∀ x ∈ o.op.operands, Rep cx false (ρ x) (ρc x)) →
    match (execOp ρc o).run P cx.w with
    | .ok (.value y) w' => ∃ cx' r, cx'.w = w' ∧ HRel B w0 cx' ∧ Le cx cx' ∧ Rep cx' false r y ∧ K r cx'.H
    | .ok .skip w' => ∃ cx', cx'.w = w' ∧ HRel B w0 cx' ∧ Le cx cx' ∧ K (.tup []) cx'.H
    | .ok (.enter fid args) w' => ∃ cx' avs, cx'.w = w' ∧ HRel B w0 cx' ∧ Le cx cx' ∧ RepL cx' false avs args.toList ∧
        ACalls P fid avs cx'.H (fun e H' => match e with | .ret r => K r H' | .pan x => pan x H')
    | .halt (.panic y) w' => ∃ cx' x, cx'.w = w' ∧ HRel B w0 cx' ∧ Le cx cx' ∧ Rep cx' false x y ∧ pan x cx'.H
    | _ => False

def Oper.small (n : Nat) (o : Oper) : Bool := o.op.operands.all (opOk n) && (match o.dst with | some d => d < n | none => true)

theorem tup_nil_undef (cx : Cx) (z : Bool) : Rep cx z (.tup []) undef := .tup [] [] rfl (fun j c x h => by simp at h)

theorem awl_nil {ops : Array Oper} {Q : AQ} {f : Fr} {H : List Blk} {ds : List ADef} (h : Q .normal f H ds) : AWL P n ops [] Q f H ds :=
  fun B w0 cx0 cx a h1 h2 h3 h4 h5 => wpList_nil ⟨cx, .normal, f, ds, rfl, h1, h2, h4, h5, trivial, h3 ▸ h⟩

theorem opsem_wp {o : Oper} {Q : AQ} {f fp : Fr} (hfp : ∀ cx a, FRel cx n f a → FRel cx n fp a) {H : List Blk} {ds : List ADef} {K : AV → List Blk → Prop} (hs : Oper.small n o = true)
    (h : OpSem P o (ev f) H K (fun x H' => Q (.pan x) fp H' ds)) {B : Nat} {w0 : World} {cx0 cx : Cx} {a : Act} (h1 : HRel B w0 cx) (h2 : Le cx0 cx) (h3 : cx.H = H) (h4 : FRel cx n f a) (h5 : DRel cx ds a.defers)
    {next : Act → World → Prop} (hn : ∀ cx' r y, HRel B w0 cx' → Le cx0 cx' → K r cx'.H → FRel cx' n (updO f o.dst r) (a.put o.dst y) → DRel cx' ds (a.put o.dst y).defers → next (a.put o.dst y) cx'.w) :
    o.wp P a cx.w next (Post B w0 cx0 n Q) := by
  simp only [Oper.small, Bool.and_eq_true, Array.all_eq_true'] at hs
  have hd : ∀ t, o.dst = some t → t < n := fun t ht => by have := hs.2; rw [ht] at this; simpa using this
  have hm := h B w0 cx a.eval h1 h3 (fun x hx => ev_rep h4 (hs.1 x hx))
  unfold Oper.wp
  generalize (execOp a.eval o).run P cx.w = r at hm
  have fin : ∀ cx' r y, HRel B w0 cx' → Le cx cx' → Rep cx' false r y → K r cx'.H → next (a.put o.dst y) cx'.w := fun cx' r y b1 b2 b3 b4 =>
    hn cx' r y b1 (h2.trans b2) b4 (frel_put (h4.mono b2) hd b3) (drel_put (h5.mono b2))
  have finp : ∀ cx' x y, HRel B w0 cx' → Le cx cx' → Rep cx' false x y → Q (.pan x) fp cx'.H ds → Post B w0 cx0 n Q (.panic [{ v := y, recovered := false }]) a cx'.w := fun cx' x y b1 b2 b3 b4 =>
    ⟨cx', .pan x, fp, ds, rfl, b1, h2.trans b2, hfp _ _ (h4.mono b2), h5.mono b2, ⟨y, rfl, b3⟩, b4⟩
  split at hm
  · obtain ⟨cx', r, rfl, b1, b2, b3, b4⟩ := hm
    exact fin cx' r _ b1 b2 b3 b4
  · obtain ⟨cx', rfl, b1, b2, b4⟩ := hm
    exact fin cx' _ _ b1 b2 (tup_nil_undef _ _) b4
  · obtain ⟨cx', avs, rfl, b1, b2, b3, b4⟩ := hm
    simp only [Oper.upon]
    have hc := b4 B w0 cx' _ b1 rfl b3
    rw [Array.toArray_toList] at hc
    refine hc.mono fun e w' he => ?_
    cases e with
    | returned y => obtain ⟨cx'', r, rfl, c1, c2, c3, c4⟩ := he; exact fin cx'' r y c1 (b2.trans c2) c3 c4
    | panicked ch => obtain ⟨cx'', x, y, rfl, c1, c2, rfl, c3, c4⟩ := he; exact finp cx'' x y c1 (b2.trans c2) c3 c4
    | outgrown => exact he.elim
  · obtain ⟨cx', x, rfl, b1, b2, b3, b4⟩ := hm
    exact finp cx' x _ b1 b2 b3 b4
  · exact hm.elim

theorem awl_step {ops : Array Oper} {rest : List Oper} {o : Oper} {Q : AQ} {f : Fr} {H : List Blk} {ds : List ADef} (hg : o.guard = none) (hs : Oper.small n o = true)
    (h : OpSem P o (ev f) H (fun r H' => AWL P n ops rest Q (updO f o.dst r) H' ds) (fun x H' => Q (.pan x) f H' ds)) : AWL P n ops (o :: rest) Q f H ds := by
  intro B w0 cx0 cx a h1 h2 h3 h4 h5
  refine wpList_plain hg fun K hK => ?_
  refine opsem_wp (fp := f) (fun _ _ h => h) hs h h1 h2 h3 h4 h5 fun cx' r y b1 b2 b3 b4 b5 => hK _ _ ?_
  exact b3 B w0 cx0 cx' _ b1 b2 rfl b4 b5

/-- Is a guarded operation done? -/
def guardV (x : AV) (want : Bool) (yes no : Prop) : Prop := match x with | .v (.bool b) => (b = want → yes) ∧ (b ≠ want → no) | .tup [] => no | _ => False

theorem yielded_of {cx : Cx} {ops : Array Oper} {f : Fr} {a : Act} (h4 : FRel cx n f a) {j d : Nat} (hj : (ops[j]?).bind (·.dst) = some d) (hd : d < n) :
    (∀ b, f d = .v (.bool b) → yielded ops a.tmps j = some b) ∧ (f d = .tup [] → yielded ops a.tmps j = none) := by
  have hr := h4.2 d hd
  have hget : a.tmps[d]? = some (a.tmps.getD d undef) := by
    rw [Array.getD_eq_getD_getElem?, Array.getElem?_eq_getElem (by rw [h4.1]; exact hd)]; rfl
  constructor
  · intro b hb
    rw [hb] at hr
    generalize hy : a.tmps.getD d undef = y at hr hget
    cases hr
    simp [yielded, hj, hget]
  · intro hb
    rw [hb] at hr
    generalize hy : a.tmps.getD d undef = y at hr hget
    cases hr
    simp [yielded, hj, hget]

theorem awl_guard {ops : Array Oper} {rest : List Oper} {o : Oper} {Q : AQ} {f : Fr} {H : List Blk} {ds : List ADef} {j : Nat} {want : Bool} (hg : o.guard = some (j, want)) {d : Nat} (hj : (ops[j]?).bind (·.dst) = some d) (hd : d < n)
    (hs : Oper.small n o = true)
    (h : guardV (f d) want (OpSem P o (ev f) H (fun r H' => AWL P n ops rest Q (updO f o.dst r) H' ds) (fun x H' => Q (.pan x) f H' ds)) (AWL P n ops rest Q (updO f o.dst (.tup [])) H ds)) :
    AWL P n ops (o :: rest) Q f H ds := by
  intro B w0 cx0 cx a h1 h2 h3 h4 h5
  obtain ⟨y1, y2⟩ := yielded_of (ops := ops) h4 hj hd
  have hsd : ∀ t, o.dst = some t → t < n := fun t ht => by simp only [Oper.small, Bool.and_eq_true] at hs; have := hs.2; rw [ht] at this; simpa using this
  have hyes : OpSem P o (ev f) H (fun r H' => AWL P n ops rest Q (updO f o.dst r) H' ds) (fun x H' => Q (.pan x) f H' ds) → Region.wanted o (yielded ops a.tmps) = true → wpList P ops (Post B w0 cx0 n Q) (o :: rest) a cx.w := by
    intro hh hw
    refine wpList_step fun K hK => ?_
    rw [if_pos hw]
    refine opsem_wp (fp := f) (fun _ _ h => h) hs hh h1 h2 h3 h4 h5 fun cx' r y b1 b2 b3 b4 b5 => hK _ _ ?_
    exact b3 B w0 cx0 cx' _ b1 b2 rfl b4 b5
  have hno : AWL P n ops rest Q (updO f o.dst (.tup [])) H ds → Region.wanted o (yielded ops a.tmps) = false → wpList P ops (Post B w0 cx0 n Q) (o :: rest) a cx.w := by
    intro hh hw
    refine wpList_step fun K hK => ?_
    rw [if_neg (by simp [hw])]
    exact hK _ _ (hh B w0 cx0 cx _ h1 h2 h3 (frel_put h4 hsd (tup_nil_undef _ _)) (drel_put h5))
  unfold guardV at h
  split at h
  · rename_i b hb
    have := y1 b hb
    by_cases hw : b = want
    · exact hyes (h.1 hw) (by simp [Region.wanted, hg, this, hw])
    · exact hno (h.2 hw) (by simp [Region.wanted, hg, this, hw])
  · rename_i hb
    exact hno h (by simp [Region.wanted, hg, y2 hb])
  · exact h.elim

theorem awp_region {id : Nat} {l : List Oper} {Q : AQ} {f : Fr} {H : List Blk} {ds : List ADef} (h : AWL P n l.toArray l Q f H ds) : AWP P n (.region id l.toArray false) Q f H ds :=
  fun B w0 cx0 cx a h1 h2 h3 h4 h5 => wp_region_lit (h B w0 cx0 cx a h1 h2 h3 h4 h5)

theorem awp_scope {c : Code} {Q : AQ} {f : Fr} {H : List Blk} {ds : List ADef} (h : AWP P n c (fun x f H ds => match x with | .goto _ => False | x => Q x f H ds) f H ds) : AWP P n (.scope c) Q f H ds := by
  intro B w0 cx0 cx a h1 h2 h3 h4 h5
  refine wp_scope_straight (wp_mono (h B w0 cx0 cx a h1 h2 h3 h4 h5) fun e a' w' hp => ?_)
  obtain ⟨cx', ax, f', ds', a1, a2, a3, a4, a5, a6, a7⟩ := hp
  cases e <;> cases ax <;> first | exact a6.elim | exact a7.elim | exact ⟨cx', _, f', ds', a1, a2, a3, a4, a5, a6, a7⟩

end
end Go.Mu
