/- Code over abstract values: what must hold for a run to come to what is said, and the rules. -/
import Derived.Test.YtganjkhdlehhdaaGreatFwAtoFwB
import Derived.Deep.LoopGhost
import Derived.RangeFuncRecord
import Derived.TacticsIn
import Derived.OrdersIn
set_option linter.unusedVariables false
set_option linter.unusedSimpArgs false
namespace Go.Mu
open Go.RowKit (Below)
inductive AX where
  | normal
  | exit (id : Nat)
  | goto (l : Nat)
  | ret
  | pan (x : AV)
inductive AE where
  | ret (x : AV)
  | pan (x : AV)
abbrev Fr := Nat → AV
structure ADef where
  fid : FuncId
  args : List AV
  mark : Option Nat
abbrev AQ := AX → Fr → List Blk → List ADef → Prop
def FRel (cx : Cx) (n : Nat) (f : Fr) (a : Act) : Prop := a.tmps.size = n ∧ ∀ t, t < n → Rep cx false (f t) (a.tmps.getD t undef)
def DRel1 (cx : Cx) (e : Deferred) (d : ADef) : Option Nat → Prop
  | none => ∃ cap : Array Value, e.target = .fn (.func d.fid) cap ∧ RepL cx false d.args (e.args ++ cap).toList
  | some k => e.target = .collected (cx.κ k) ∧ ∃ bl, cx.H[k]? = some bl ∧ bl.fixed = true
def DRel (cx : Cx) : List ADef → List Deferred → Prop
  | [], [] => True
  | d :: ds, e :: es => DRel1 cx e d d.mark ∧ DRel cx ds es
  | _, _ => False
def XRel (cx : Cx) : Exit → AX → Prop
  | .normal, .normal => True
  | .exit i, .exit j => i = j
  | .goto i, .goto j => i = j
  | .ret, .ret => True
  | .panic ch, .pan x => ∃ y, ch = [{ v := y, recovered := false }] ∧ Rep cx false x y
  | _, _ => False
def maskFr (ops : Array Oper) (f : Fr) : Fr := fun t => if ops.any (fun o => o.dst == some t) then .junk else f t
theorem frel_mask {cx : Cx} {n : Nat} {f : Fr} {a : Act} (ops : Array Oper) (h : FRel cx n f a) : FRel cx n (maskFr ops f) a :=
  ⟨h.1, fun t ht => by unfold maskFr; split; exact .junk _; exact h.2 t ht⟩
theorem FRel.mono {cx cx' : Cx} (hle : Le cx cx') {n : Nat} {f : Fr} {a : Act} (h : FRel cx n f a) : FRel cx' n f a := ⟨h.1, fun t ht => (h.2 t ht).mono hle⟩
theorem DRel1.mono {cx cx' : Cx} (hle : Le cx cx') {e : Deferred} {d : ADef} {m : Option Nat} (h : DRel1 cx e d m) : DRel1 cx' e d m := by
  cases m with
  | none => obtain ⟨cap, h1, h2⟩ := h; exact ⟨cap, h1, h2.mono hle⟩
  | some k => obtain ⟨h1, bl, h2, h3⟩ := h; obtain ⟨bl', a1, a2, a3⟩ := hle.fixed k bl h2 h3; exact ⟨by rw [a3]; exact h1, bl', a1, a2⟩
theorem DRel.mono {cx cx' : Cx} (hle : Le cx cx') : ∀ {ds : List ADef} {es : List Deferred}, DRel cx ds es → DRel cx' ds es
  | [], [], _ => trivial
  | d :: ds, e :: es, h => ⟨h.1.mono hle, DRel.mono (ds := ds) (es := es) hle h.2⟩
  | [], _ :: _, h => h.elim
  | _ :: _, [], h => h.elim
def noDefer (o : Oper) : Bool := match o.op with | .defer _ => false | _ => true
def noDefC : Code → Bool
  | .region _ ops _ => ops.toList.all noDefer
  | .seq a b | .cond _ a b => noDefC a && noDefC b
  | .block _ b | .loop b => noDefC b
  | .rangeFunc .. | .scope _ => false
  | _ => true
abbrev Fo (ro : Option Nat) : Fence := { Fence.wide with round := ro }
theorem fo_wp {c : Code} {P : Program} {Q : Exit → Act → World → Prop} {a : Act} {w : World} : c.wpIn (Fo none) 0 P Q a w ↔ c.wp P Q a w := wpIn_wide
theorem fo_calls {ro : Option Nat} {n : Nat} {P : Program} {f : FuncId} {args : Array Value} {w : World} {R : Ending → World → Prop} : CallsIn (Fo ro) n P f args w R ↔ Calls P f args w R := callsIn_wide (n := n)
def Post (B : Nat) (w0 : World) (cx : Cx) (n : Nat) (Q : AQ) (e : Exit) (a' : Act) (w' : World) : Prop :=
  ∃ cx' x f' ds', cx'.w = w' ∧ HRel B w0 cx' ∧ Le cx cx' ∧ FRel cx' n f' a' ∧ DRel cx' ds' a'.defers ∧ XRel cx' e x ∧ Q x f' cx'.H ds'
def AWP (P : Program) (n : Nat) (c : Code) (Q : AQ) (f : Fr) (H : List Blk) (ds : List ADef) : Prop :=
  ∀ ro, (ro.isSome = true → noDefC c = true) → ∀ B w0 cx0 cx a, HRel B w0 cx → Le cx0 cx → cx.H = H → FRel cx n f a → DRel cx ds a.defers → c.wpIn (Fo ro) 0 P (Post B w0 cx0 n Q) a cx.w
def AWL (P : Program) (n : Nat) (ops : Array Oper) (rest : List Oper) (Q : AQ) (f : Fr) (H : List Blk) (ds : List ADef) : Prop :=
  ∀ ro, (ro.isSome = true → rest.all noDefer = true) → ∀ B w0 cx0 cx a, HRel B w0 cx → Le cx0 cx → cx.H = H → FRel cx n f a → DRel cx ds a.defers → wpListIn (Fo ro) 0 P ops (Post B w0 cx0 n Q) rest a cx.w
def EndRel (B : Nat) (w0 : World) (cx : Cx) (R : AE → List Blk → Prop) (e : Ending) (w' : World) : Prop :=
  match e with
  | .returned y => ∃ cx' r, cx'.w = w' ∧ HRel B w0 cx' ∧ Le cx cx' ∧ Rep cx' false r y ∧ R (.ret r) cx'.H
  | .panicked ch => ∃ cx' x y, cx'.w = w' ∧ HRel B w0 cx' ∧ Le cx cx' ∧ ch = [{ v := y, recovered := false }] ∧ Rep cx' false x y ∧ R (.pan x) cx'.H
  | .outgrown => False
def ACalls (P : Program) (fid : FuncId) (args : List AV) (H : List Blk) (R : AE → List Blk → Prop) : Prop :=
  ∀ B w0 cx vals, HRel B w0 cx → cx.H = H → RepL cx false args vals → Calls P fid vals.toArray cx.w (EndRel B w0 cx R)
def AYield (P : Program) (k : Nat) (H : List Blk) (args : List AV) (R : AE → List Blk → Prop) : Prop :=
  ∀ B w0 cx vals, HRel B w0 cx → cx.H = H → RepL cx false args vals → ∃ fid tmps assign body, (Instr.yield (cx.κ k) vals.toArray).run P cx.w = .ok (.round (cx.κ k) fid tmps assign body) cx.w ∧
    RoundIn (Fo none) 0 P (cx.κ k) fid tmps assign body cx.w (EndRel B w0 cx R)
theorem EndRel.mono {B : Nat} {w0 : World} {cx : Cx} {R R' : AE → List Blk → Prop} (hr : ∀ e H', R e H' → R' e H') {e : Ending} {w' : World} (h : EndRel B w0 cx R e w') : EndRel B w0 cx R' e w' := by
  cases e with
  | returned y => obtain ⟨cx', r, a1, a2, a3, a4, a5⟩ := h; exact ⟨cx', r, a1, a2, a3, a4, hr _ _ a5⟩
  | panicked ch => obtain ⟨cx', x, y, a1, a2, a3, a4, a5, a6⟩ := h; exact ⟨cx', x, y, a1, a2, a3, a4, a5, hr _ _ a6⟩
  | outgrown => exact h
theorem ACalls.mono {P : Program} {fid : FuncId} {args : List AV} {H : List Blk} {R R' : AE → List Blk → Prop} (h : ACalls P fid args H R) (hr : ∀ e H', R e H' → R' e H') : ACalls P fid args H R' := by
  intro B w0 cx vals h1 h2 h3
  refine (h B w0 cx vals h1 h2 h3).mono fun e w' he => ?_
  cases e with
  | returned y => obtain ⟨cx', r, a1, a2, a3, a4, a5⟩ := he; exact ⟨cx', r, a1, a2, a3, a4, hr _ _ a5⟩
  | panicked ch => obtain ⟨cx', x, y, a1, a2, a3, a4, a5, a6⟩ := he; exact ⟨cx', x, y, a1, a2, a3, a4, a5, hr _ _ a6⟩
  | outgrown => exact he
theorem AYield.mono {P : Program} {k : Nat} {args : List AV} {H : List Blk} {R R' : AE → List Blk → Prop} (h : AYield P k H args R) (hr : ∀ e H', R e H' → R' e H') : AYield P k H args R' := by
  intro B w0 cx vals h1 h2 h3
  obtain ⟨fid, tmps, assign, body, a, b⟩ := h B w0 cx vals h1 h2 h3
  exact ⟨fid, tmps, assign, body, a, b.mono fun e w' he => he.mono hr⟩
section
variable {P : Program} {n : Nat}
theorem AWP.mono {c : Code} {Q Q' : AQ} {f : Fr} {H : List Blk} {ds : List ADef} (h : AWP P n c Q f H ds) (hq : ∀ x f H ds, Q x f H ds → Q' x f H ds) : AWP P n c Q' f H ds := by
  intro ro hro B w0 cx0 cx a h1 h2 h3 h4 h5
  refine wpIn_mono (h ro hro B w0 cx0 cx a h1 h2 h3 h4 h5) fun e a' w' hp => ?_
  obtain ⟨cx', x, f', ds', a1, a2, a3, a4, a5, a6, a7⟩ := hp
  exact ⟨cx', x, f', ds', a1, a2, a3, a4, a5, a6, hq _ _ _ _ a7⟩
theorem awp_skip {Q : AQ} {f : Fr} {H : List Blk} {ds : List ADef} (h : Q .normal f H ds) : AWP P n .skip Q f H ds :=
  fun ro hro B w0 cx0 cx a h1 h2 h3 h4 h5 => wpIn_skip ⟨cx, .normal, f, ds, rfl, h1, h2, h4, h5, trivial, h3 ▸ h⟩
theorem awp_label {l : Nat} {Q : AQ} {f : Fr} {H : List Blk} {ds : List ADef} (h : Q .normal f H ds) : AWP P n (.label l) Q f H ds :=
  fun ro hro B w0 cx0 cx a h1 h2 h3 h4 h5 => wpIn_label ⟨cx, .normal, f, ds, rfl, h1, h2, h4, h5, trivial, h3 ▸ h⟩
theorem awp_exit {id : Nat} {Q : AQ} {f : Fr} {H : List Blk} {ds : List ADef} (h : Q (.exit id) f H ds) : AWP P n (.exit id) Q f H ds :=
  fun ro hro B w0 cx0 cx a h1 h2 h3 h4 h5 => wpIn_exit ⟨cx, .exit id, f, ds, rfl, h1, h2, h4, h5, rfl, h3 ▸ h⟩
theorem awp_goto {l : Nat} {Q : AQ} {f : Fr} {H : List Blk} {ds : List ADef} (h : Q (.goto l) f H ds) : AWP P n (.goto l) Q f H ds :=
  fun ro hro B w0 cx0 cx a h1 h2 h3 h4 h5 => wpIn_goto ⟨cx, .goto l, f, ds, rfl, h1, h2, h4, h5, rfl, h3 ▸ h⟩
theorem awp_ret {Q : AQ} {f : Fr} {H : List Blk} {ds : List ADef} (h : Q .ret f H ds) : AWP P n .ret Q f H ds :=
  fun ro hro B w0 cx0 cx a h1 h2 h3 h4 h5 => wpIn_ret ⟨cx, .ret, f, ds, rfl, h1, h2, h4, h5, trivial, h3 ▸ h⟩
def thenQ (k : Fr → List Blk → List ADef → Prop) (Q : AQ) : AQ := fun x f H ds => match x with | .normal => k f H ds | x => Q x f H ds
def blockQ (id : Nat) (Q : AQ) : AQ := fun x f H ds => match x with | .exit i => if i = id then Q .normal f H ds else Q (.exit i) f H ds | x => Q x f H ds
theorem awp_seq {x y : Code} {Q : AQ} {f : Fr} {H : List Blk} {ds : List ADef} (h : AWP P n x (thenQ (AWP P n y Q) Q) f H ds) : AWP P n (.seq x y) Q f H ds := by
  intro ro hro B w0 cx0 cx a h1 h2 h3 h4 h5
  have hrx : ro.isSome = true → noDefC x = true := fun hs => by have := hro hs; simp only [noDefC, Bool.and_eq_true] at this; exact this.1
  have hry : ro.isSome = true → noDefC y = true := fun hs => by have := hro hs; simp only [noDefC, Bool.and_eq_true] at this; exact this.2
  refine wpIn_seq (wpIn_mono (h ro hrx B w0 cx0 cx a h1 h2 h3 h4 h5) fun e a' w' hp => ?_)
  obtain ⟨cx', ax, f', ds', a1, a2, a3, a4, a5, a6, a7⟩ := hp
  cases e <;> cases ax <;> try exact a6.elim
  · simp only [Exit.then]
    rw [← a1]
    exact (show AWP P n y Q f' cx'.H ds' from a7) ro hry B w0 cx0 cx' a' a2 a3 rfl a4 a5
  all_goals exact ⟨cx', _, f', ds', a1, a2, a3, a4, a5, a6, a7⟩
theorem awp_block {id : Nat} {c : Code} {Q : AQ} {f : Fr} {H : List Blk} {ds : List ADef} (h : AWP P n c (blockQ id Q) f H ds) : AWP P n (.block id c) Q f H ds := by
  intro ro hro B w0 cx0 cx a h1 h2 h3 h4 h5
  refine wpIn_block (wpIn_mono (h ro hro B w0 cx0 cx a h1 h2 h3 h4 h5) fun e a' w' hp => ?_)
  obtain ⟨cx', ax, f', ds', a1, a2, a3, a4, a5, a6, a7⟩ := hp
  cases e <;> cases ax <;> try exact a6.elim
  case exit.exit i j =>
    obtain rfl : i = j := a6
    simp only [Exit.inBlock]
    simp only [blockQ] at a7
    split
    · rename_i hi
      rw [if_pos hi] at a7
      exact ⟨cx', .normal, f', ds', a1, a2, a3, a4, a5, trivial, a7⟩
    · rename_i hi
      rw [if_neg hi] at a7
      exact ⟨cx', .exit i, f', ds', a1, a2, a3, a4, a5, rfl, a7⟩
  all_goals exact ⟨cx', _, f', ds', a1, a2, a3, a4, a5, a6, a7⟩
theorem wpIn_ghost {F : Fence} {rm : Nat} {Q : Exit → Act → World → Prop} {a : Act} {w : World} {c : Code} (I : Nat → Act → World → Prop) (n₀ : Nat) (h₀ : I n₀ a w)
    (round : ∀ n a w, I n a w → c.wpIn F rm P (Exit.then (fun a' w' => ∃ n', n' < n ∧ I n' a' w') Q) a w) : (Code.loop c).wpIn F rm P Q a w := by
  refine wpIn_loop (fun a w => ∃ n, I n a w) (fun a w => leastOf (fun n => I n a w)) ⟨n₀, h₀⟩ ?_
  intro a w hI
  refine wpIn_mono (round _ a w (leastOf_spec hI).1) ?_
  intro e a' w' hq
  cases e with
  | normal =>
    obtain ⟨n', hlt, hI'⟩ := hq
    exact show (∃ n, I n a' w') ∧ leastOf (fun n => I n a' w') < leastOf (fun n => I n a w) from ⟨⟨n', hI'⟩, Nat.lt_of_le_of_lt ((leastOf_spec ⟨n', hI'⟩).2 n' hI') hlt⟩
  | _ => exact hq
theorem awp_loop {c : Code} {Q : AQ} (I : Nat → Fr → List Blk → List ADef → Prop)
    (round : ∀ m f H ds, I m f H ds → AWP P n c (thenQ (fun f' H' ds' => ∃ m', m' < m ∧ I m' f' H' ds') Q) f H ds) {m : Nat} {f : Fr} {H : List Blk} {ds : List ADef} (h : I m f H ds) :
    AWP P n (.loop c) Q f H ds := by
  intro ro hro B w0 cx0 cx a h1 h2 h3 h4 h5
  refine wpIn_ghost (fun m a w => ∃ cx f ds, cx.w = w ∧ HRel B w0 cx ∧ Le cx0 cx ∧ FRel cx n f a ∧ DRel cx ds a.defers ∧ I m f cx.H ds) m ⟨cx, f, ds, rfl, h1, h2, h4, h5, h3 ▸ h⟩ ?_
  rintro m a w ⟨cx, f, ds, rfl, h1, h2, h4, h5, hI⟩
  refine wpIn_mono (round m f cx.H ds hI ro hro B w0 cx0 cx a h1 h2 rfl h4 h5) fun e a' w' hp => ?_
  obtain ⟨cx', ax, f', ds', a1, a2, a3, a4, a5, a6, a7⟩ := hp
  cases e <;> cases ax <;> try exact a6.elim
  · obtain ⟨m', hlt, hI'⟩ := a7
    exact ⟨m', hlt, cx', f', ds', a1, a2, a3, a4, a5, hI'⟩
  all_goals exact ⟨cx', _, f', ds', a1, a2, a3, a4, a5, a6, a7⟩
def opOk (n : Nat) : Operand → Bool
  | .tmp t => t < n
  | _ => true
def ev (f : Fr) : Operand → AV
  | .tmp t => f t
  | .const x => .v x
  | .global g => .v (.pointer (some ⟨g, 0, none⟩))
  | .func g => .fn (.func g) [] []
theorem ev_rep {cx : Cx} {f : Fr} {a : Act} (h : FRel cx n f a) {x : Operand} (hx : opOk n x = true) : Rep cx false (ev f x) (a.eval x) := by
  cases x with
  | tmp t => exact h.2 t (by simpa [opOk] using hx)
  | const x => exact .v x
  | global g => exact .v _
  | func g => exact .fn _ [] [] [] [] rfl (fun j c x h => by simp at h) rfl (fun j c x h => by simp at h)
def condV (x : AV) (yes no : Prop) : Prop := match x with | .v (.bool true) => yes | .v (.bool false) => no | _ => False
theorem awp_cond {c : Operand} {x y : Code} {Q : AQ} {f : Fr} {H : List Blk} {ds : List ADef} (hc : opOk n c = true) (h : condV (ev f c) (AWP P n x Q f H ds) (AWP P n y Q f H ds)) : AWP P n (.cond c x y) Q f H ds := by
  intro ro hro B w0 cx0 cx a h1 h2 h3 h4 h5
  have hrx : ro.isSome = true → noDefC x = true := fun hs => by have := hro hs; simp only [noDefC, Bool.and_eq_true] at this; exact this.1
  have hry : ro.isSome = true → noDefC y = true := fun hs => by have := hro hs; simp only [noDefC, Bool.and_eq_true] at this; exact this.2
  have hr := ev_rep h4 hc
  generalize hv : ev f c = v at h hr
  generalize hy : a.eval c = yv at hr
  unfold condV at h
  split at h
  · cases hr; exact wpIn_cond_true hy (h ro hrx B w0 cx0 cx a h1 h2 h3 h4 h5)
  · cases hr; exact wpIn_cond_false hy (h ro hry B w0 cx0 cx a h1 h2 h3 h4 h5)
  · exact h.elim
def upd (f : Fr) (d : Nat) (x : AV) : Fr := fun t => if t = d then x else f t
def updO (f : Fr) (d : Option Nat) (x : AV) : Fr := match d with | some d => upd f d x | none => f
theorem frel_put {cx : Cx} {f : Fr} {a : Act} (h : FRel cx n f a) {d : Option Nat} {x : AV} {y : Value} (hd : ∀ t, d = some t → t < n) (hr : Rep cx false x y) : FRel cx n (updO f d x) (a.put d y) := by
  cases d with
  | none => exact h
  | some d =>
    refine ⟨by simp [Act.put, h.1], fun t ht => ?_⟩
    have hdn := hd d rfl
    simp only [Act.put, updO, upd]
    by_cases e : t = d
    · subst e
      simp only [if_true]
      rw [Array.getD_eq_getD_getElem?, Array.getElem?_setIfInBounds_self_of_lt (by rw [h.1]; exact hdn)]
      exact hr
    · simp only [if_neg e]
      rw [Array.getD_eq_getD_getElem?, Array.getElem?_setIfInBounds_ne (fun e' => e e'.symm), ← Array.getD_eq_getD_getElem?]
      exact h.2 t ht
theorem drel_put {cx : Cx} {ds : List ADef} {a : Act} {d : Option Nat} {y : Value} (h : DRel cx ds a.defers) : DRel cx ds (a.put d y).defers := by
  cases d <;> exact h
def OpSem (P : Program) (o : Oper) (ρ : Operand → AV) (H : List Blk) (K : AV → List Blk → Prop) (pan : AV → List Blk → Prop) : Prop :=
  ∀ B w0 cx (ρc : Operand → Value), HRel B w0 cx → cx.H = H → (∀ x ∈ o.op.operands, Rep cx false (ρ x) (ρc x)) →
    match (execOp ρc o).run P cx.w with
    | .ok (.value y) w' => ∃ cx' r, cx'.w = w' ∧ HRel B w0 cx' ∧ Le cx cx' ∧ Rep cx' false r y ∧ K r cx'.H
    | .ok .skip w' => ∃ cx', cx'.w = w' ∧ HRel B w0 cx' ∧ Le cx cx' ∧ K (.tup []) cx'.H
    | .ok (.enter fid args) w' => ∃ cx' avs, cx'.w = w' ∧ HRel B w0 cx' ∧ Le cx cx' ∧ RepL cx' false avs args.toList ∧
        ACalls P fid avs cx'.H (fun e H' => match e with | .ret r => K r H' | .pan x => pan x H')
    | .ok (.round l fid tmps assign body) w' => ∃ cx', cx'.w = w' ∧ HRel B w0 cx' ∧ Le cx cx' ∧ RoundIn (Fo none) 0 P l fid tmps assign body w' (EndRel B w0 cx' (fun e H' => match e with | .ret r => K r H' | .pan x => pan x H'))
    | .halt (.panic y) w' => ∃ cx' x, cx'.w = w' ∧ HRel B w0 cx' ∧ Le cx cx' ∧ Rep cx' false x y ∧ pan x cx'.H
    | _ => False
def Oper.small (n : Nat) (o : Oper) : Bool := o.op.operands.all (opOk n) && (match o.dst with | some d => d < n | none => true)
theorem tup_nil_undef (cx : Cx) (z : Bool) : Rep cx z (.tup []) undef := .tup [] [] rfl (fun j c x h => by simp at h)
theorem awl_nil {ops : Array Oper} {Q : AQ} {f : Fr} {H : List Blk} {ds : List ADef} (h : Q .normal f H ds) : AWL P n ops [] Q f H ds :=
  fun ro hro B w0 cx0 cx a h1 h2 h3 h4 h5 => wpListIn_nil ⟨cx, .normal, f, ds, rfl, h1, h2, h4, h5, trivial, h3 ▸ h⟩
theorem opsem_wp {o : Oper} {Q : AQ} {f fp : Fr} (hfp : ∀ cx a, FRel cx n f a → FRel cx n fp a) {H : List Blk} {ds : List ADef} {K : AV → List Blk → Prop} (hs : Oper.small n o = true) {ro : Option Nat} (hro : ro.isSome = true → noDefer o = true)
    (h : OpSem P o (ev f) H K (fun x H' => Q (.pan x) fp H' ds)) {B : Nat} {w0 : World} {cx0 cx : Cx} {a : Act} (h1 : HRel B w0 cx) (h2 : Le cx0 cx) (h3 : cx.H = H) (h4 : FRel cx n f a) (h5 : DRel cx ds a.defers)
    {next : Act → World → Prop} (hn : ∀ cx' r y, HRel B w0 cx' → Le cx0 cx' → K r cx'.H → FRel cx' n (updO f o.dst r) (a.put o.dst y) → DRel cx' ds (a.put o.dst y).defers → next (a.put o.dst y) cx'.w) :
    o.wpIn (Fo ro) 0 P a cx.w next (Post B w0 cx0 n Q) := by
  simp only [Oper.small, Bool.and_eq_true, Array.all_eq_true'] at hs
  have hd : ∀ t, o.dst = some t → t < n := fun t ht => by have := hs.2; rw [ht] at this; simpa using this
  have hm := h B w0 cx a.eval h1 h3 (fun x hx => ev_rep h4 (hs.1 x hx))
  have hsem : Oper.semAt (Fo ro).round a.eval o = execOp a.eval o := by
    cases ro with
    | none => rfl
    | some l => exact Oper.semAt_some l _ _ (fun c hc => by have := hro rfl; simp [noDefer, hc] at this)
  refine ⟨fun _ _ => trivial, ?_⟩
  rw [hsem]
  generalize (execOp a.eval o).run P cx.w = r at hm
  have fin : ∀ cx' r y, HRel B w0 cx' → Le cx cx' → Rep cx' false r y → K r cx'.H → next (a.put o.dst y) cx'.w := fun cx' r y b1 b2 b3 b4 =>
    hn cx' r y b1 (h2.trans b2) b4 (frel_put (h4.mono b2) hd b3) (drel_put (h5.mono b2))
  have finp : ∀ cx' x y, HRel B w0 cx' → Le cx cx' → Rep cx' false x y → Q (.pan x) fp cx'.H ds → Post B w0 cx0 n Q (.panic [{ v := y, recovered := false }]) a cx'.w := fun cx' x y b1 b2 b3 b4 =>
    ⟨cx', .pan x, fp, ds, rfl, b1, h2.trans b2, hfp _ _ (h4.mono b2), h5.mono b2, ⟨y, rfl, b3⟩, b4⟩
  split at hm
  · obtain ⟨cx', r, rfl, b1, b2, b3, b4⟩ := hm
    exact fin cx' r _ b1 b2 b3 b4
  · obtain ⟨cx', rfl, b1, b2, b4⟩ := hm
    exact fin cx' _ _ b1 b2 (tup_nil_undef _ _) b4
  · obtain ⟨cx', avs, rfl, b1, b2, b3, b4⟩ := hm
    have hc := b4 B w0 cx' _ b1 rfl b3
    rw [Array.toArray_toList] at hc
    rw [Oper.uponIn_enter]
    refine ⟨fun hd => (by cases hd), (fo_calls.2 hc).mono fun e w' he => ?_⟩
    cases e with
    | returned y => obtain ⟨cx'', r, rfl, c1, c2, c3, c4⟩ := he; exact fin cx'' r y c1 (b2.trans c2) c3 c4
    | panicked ch => obtain ⟨cx'', x, y, rfl, c1, c2, rfl, c3, c4⟩ := he; exact finp cx'' x y c1 (b2.trans c2) c3 c4
    | outgrown => exact he.elim
  · obtain ⟨cx', rfl, b1, b2, b4⟩ := hm
    rw [Oper.uponIn_round]
    have hc : RoundIn (Fo ro) (0 - 1) P _ _ _ _ _ cx'.w _ := b4
    refine ⟨fun hd => (by cases hd), hc.mono fun e w' he => ?_⟩
    cases e with
    | returned y => obtain ⟨cx'', r, rfl, c1, c2, c3, c4⟩ := he; exact fin cx'' r y c1 (b2.trans c2) c3 c4
    | panicked ch => obtain ⟨cx'', x, y, rfl, c1, c2, rfl, c3, c4⟩ := he; exact finp cx'' x y c1 (b2.trans c2) c3 c4
    | outgrown => exact he.elim
  · obtain ⟨cx', x, rfl, b1, b2, b3, b4⟩ := hm
    exact finp cx' x _ b1 b2 b3 b4
  · exact hm.elim
theorem awl_step {ops : Array Oper} {rest : List Oper} {o : Oper} {Q : AQ} {f : Fr} {H : List Blk} {ds : List ADef} (hg : o.guard = none) (hs : Oper.small n o = true)
    (h : OpSem P o (ev f) H (fun r H' => AWL P n ops rest Q (updO f o.dst r) H' ds) (fun x H' => Q (.pan x) f H' ds)) : AWL P n ops (o :: rest) Q f H ds := by
  intro ro hro B w0 cx0 cx a h1 h2 h3 h4 h5
  have hro1 : ro.isSome = true → noDefer o = true := fun hs => by have := hro hs; simp only [List.all_cons, Bool.and_eq_true] at this; exact this.1
  have hro2 : ro.isSome = true → rest.all noDefer = true := fun hs => by have := hro hs; simp only [List.all_cons, Bool.and_eq_true] at this; exact this.2
  refine wpListIn_plain hg fun K hK => ?_
  refine opsem_wp (fp := f) (fun _ _ h => h) hs hro1 h h1 h2 h3 h4 h5 fun cx' r y b1 b2 b3 b4 b5 => hK _ _ ?_
  exact b3 ro hro2 B w0 cx0 cx' _ b1 b2 rfl b4 b5
def guardV (x : AV) (want : Bool) (yes no : Prop) : Prop := match x with | .v (.bool b) => (b = want → yes) ∧ (b ≠ want → no) | .tup [] => no | _ => False
theorem yielded_of {cx : Cx} {ops : Array Oper} {f : Fr} {a : Act} (h4 : FRel cx n f a) {j d : Nat} (hj : (ops[j]?).bind (·.dst) = some d) (hd : d < n) :
    (∀ b, f d = .v (.bool b) → yielded ops a.tmps j = some b) ∧ (f d = .tup [] → yielded ops a.tmps j = none) := by
  have hr := h4.2 d hd
  have hget : a.tmps[d]? = some (a.tmps.getD d undef) := by
    rw [Array.getD_eq_getD_getElem?, Array.getElem?_eq_getElem (by rw [h4.1]; exact hd)]; rfl
  constructor
  · intro b hb
    rw [hb] at hr
    generalize hy : a.tmps.getD d undef = y at hr hget
    cases hr
    simp [yielded, hj, hget]
  · intro hb
    rw [hb] at hr
    generalize hy : a.tmps.getD d undef = y at hr hget
    cases hr
    simp [yielded, hj, hget]
theorem awl_guard {ops : Array Oper} {rest : List Oper} {o : Oper} {Q : AQ} {f : Fr} {H : List Blk} {ds : List ADef} {j : Nat} {want : Bool} (hg : o.guard = some (j, want)) {d : Nat} (hj : (ops[j]?).bind (·.dst) = some d) (hd : d < n)
    (hs : Oper.small n o = true)
    (h : guardV (f d) want (OpSem P o (ev f) H (fun r H' => AWL P n ops rest Q (updO f o.dst r) H' ds) (fun x H' => Q (.pan x) f H' ds)) (AWL P n ops rest Q (updO f o.dst (.tup [])) H ds)) :
    AWL P n ops (o :: rest) Q f H ds := by
  intro ro hro B w0 cx0 cx a h1 h2 h3 h4 h5
  have hro1 : ro.isSome = true → noDefer o = true := fun hs => by have := hro hs; simp only [List.all_cons, Bool.and_eq_true] at this; exact this.1
  have hro2 : ro.isSome = true → rest.all noDefer = true := fun hs => by have := hro hs; simp only [List.all_cons, Bool.and_eq_true] at this; exact this.2
  obtain ⟨y1, y2⟩ := yielded_of (ops := ops) h4 hj hd
  have hsd : ∀ t, o.dst = some t → t < n := fun t ht => by simp only [Oper.small, Bool.and_eq_true] at hs; have := hs.2; rw [ht] at this; simpa using this
  have hyes : OpSem P o (ev f) H (fun r H' => AWL P n ops rest Q (updO f o.dst r) H' ds) (fun x H' => Q (.pan x) f H' ds) → Region.wanted o (yielded ops a.tmps) = true → wpListIn (Fo ro) 0 P ops (Post B w0 cx0 n Q) (o :: rest) a cx.w := by
    intro hh hw
    refine wpListIn_step fun K hK => ?_
    rw [if_pos hw]
    refine opsem_wp (fp := f) (fun _ _ h => h) hs hro1 hh h1 h2 h3 h4 h5 fun cx' r y b1 b2 b3 b4 b5 => hK _ _ ?_
    exact b3 ro hro2 B w0 cx0 cx' _ b1 b2 rfl b4 b5
  have hno : AWL P n ops rest Q (updO f o.dst (.tup [])) H ds → Region.wanted o (yielded ops a.tmps) = false → wpListIn (Fo ro) 0 P ops (Post B w0 cx0 n Q) (o :: rest) a cx.w := by
    intro hh hw
    refine wpListIn_step fun K hK => ?_
    rw [if_neg (by simp [hw])]
    exact ⟨fun _ _ => trivial, hK _ _ (hh ro hro2 B w0 cx0 cx _ h1 h2 h3 (frel_put h4 hsd (tup_nil_undef _ _)) (drel_put h5))⟩
  unfold guardV at h
  split at h
  · rename_i b hb
    have := y1 b hb
    by_cases hw : b = want
    · exact hyes (h.1 hw) (by simp [Region.wanted, hg, this, hw])
    · exact hno (h.2 hw) (by simp [Region.wanted, hg, this, hw])
  · rename_i hb
    exact hno h (by simp [Region.wanted, hg, y2 hb])
  · exact h.elim
theorem awp_region {id : Nat} {l : List Oper} {Q : AQ} {f : Fr} {H : List Blk} {ds : List ADef} (h : AWL P n l.toArray l Q f H ds) : AWP P n (.region id l.toArray false) Q f H ds :=
  fun ro hro B w0 cx0 cx a h1 h2 h3 h4 h5 => wpIn_region_lit (h ro (by simpa [noDefC] using hro) B w0 cx0 cx a h1 h2 h3 h4 h5)
theorem awp_scope {c : Code} {Q : AQ} {f : Fr} {H : List Blk} {ds : List ADef} (h : AWP P n c (fun x f H ds => match x with | .goto _ => False | x => Q x f H ds) f H ds) : AWP P n (.scope c) Q f H ds := by
  intro ro hro B w0 cx0 cx a h1 h2 h3 h4 h5
  cases ro with
  | some l => have := hro rfl; simp [noDefC] at this
  | none =>
  refine fo_wp.2 (wp_scope_straight (wp_mono (fo_wp.1 (h none (fun hs => by cases hs) B w0 cx0 cx a h1 h2 h3 h4 h5)) fun e a' w' hp => ?_))
  obtain ⟨cx', ax, f', ds', a1, a2, a3, a4, a5, a6, a7⟩ := hp
  cases e <;> cases ax <;> first | exact a6.elim | exact a7.elim | exact ⟨cx', _, f', ds', a1, a2, a3, a4, a5, a6, a7⟩
end
end Go.Mu
namespace Go.Mu
open Go.RowKit (Below)
def szOf (P : Program) (t : TypeId) : Option Nat := (P.info? t).map (·.size)
def isAggD : TypeDesc → Bool
  | .struct _ | .array _ _ => true
  | _ => false
def aggOf (P : Program) (t : TypeId) : Option Bool := (P.underlying t).map isAggD
def elOf (P : Program) (t : TypeId) : Option TypeId := match P.underlying t with | some (.slice e) => some e | _ => none
def fldOf (P : Program) (s : TypeId) (i : Nat) : Option (Nat × Nat × Bool) :=
  match P.underlying s with
  | some (.struct fs) => match fs[i]? with
    | some f => match szOf P f.type, aggOf P f.type with
      | some sz, some b => some (f.offset, sz, b)
      | _, _ => none
    | none => none
  | _ => none
def zeroOf (P : Program) (t : TypeId) : Option Value := (P.info? t).bind (·.zero)
theorem run_sizeOf {P : Program} {t : TypeId} {n : Nat} (h : szOf P t = some n) (w : World) : (sizeOf t).run P w = .ok n w := by
  unfold szOf at h
  cases hi : P.info? t with
  | none => rw [hi] at h; cases h
  | some i => rw [hi] at h; simp at h; subst h; simp [sizeOf, typeInfo, hi]
theorem run_zeroOf {P : Program} {t : TypeId} {z : Value} (h : zeroOf P t = some z) (w : World) : (zeroValue t).run P w = .ok z w := by
  unfold zeroOf at h
  cases hi : P.info? t with
  | none => rw [hi] at h; cases h
  | some i => rw [hi] at h; simp at h; simp [zeroValue, typeInfo, hi, h]
theorem run_isAgg {P : Program} {t : TypeId} {b : Bool} (h : aggOf P t = some b) (w : World) : (isAgg t).run P w = .ok b w := by
  unfold aggOf at h
  cases hi : P.underlying t with
  | none => rw [hi] at h; cases h
  | some d =>
    rw [hi] at h; simp at h; subst h
    cases d <;> simp [isAgg, run_underlying hi, isAggD]
def avCells : AV → Option (List AV)
  | .agg cs => some cs
  | .v x => some (x.cells.toList.map .v)
  | .junk => none
  | x => some [x]
def AV.one : AV → Bool
  | .agg _ | .tup _ | .junk => false
  | .v x => x.oneCell'
  | .hs .. | .rp .. => true
  | _ => true
def AV.frzB : AV → Bool
  | .v _ | .vs _ _ | .vx _ _ | .vp _ | .junk => true
  | .ifc _ x => x.frzB
  | .agg [] => true
  | _ => false
theorem RepL.of_v (cx : Cx) (z : Bool) (xs : List Value) : RepL cx z (xs.map .v) xs := by
  refine ⟨by simp, fun j c x h1 h2 => ?_⟩
  rw [List.getElem?_map, h2] at h1
  simp at h1; subst h1; exact .v x
theorem Rep.v_inv {cx : Cx} {z : Bool} {x y : Value} (h : Rep cx z (.v x) y) : y = x := by cases h; rfl
theorem Rep.agg_inv {cx : Cx} {z : Bool} {cs : List AV} {y : Value} (h : Rep cx z (.agg cs) y) : ∃ vals : List Value, y = .agg vals.toArray ∧ RepL cx z cs vals := by
  cases h with
  | agg _ vals hn hr => exact ⟨vals, rfl, hn, hr⟩
theorem Rep.tup_inv {cx : Cx} {z : Bool} {cs : List AV} {y : Value} (h : Rep cx z (.tup cs) y) : ∃ vals : List Value, y = .tuple vals.toArray ∧ RepL cx z cs vals := by
  cases h with
  | tup _ vals hn hr => exact ⟨vals, rfl, hn, hr⟩
theorem rep_agg {cx : Cx} {z : Bool} {cs : List AV} {vals : List Value} (h : RepL cx z cs vals) : Rep cx z (.agg cs) (.agg vals.toArray) := .agg cs vals h.len h.rep
theorem rep_tup {cx : Cx} {z : Bool} {cs : List AV} {vals : List Value} (h : RepL cx z cs vals) : Rep cx z (.tup cs) (.tuple vals.toArray) := .tup cs vals h.len h.rep
theorem avCells_rep {cx : Cx} {a : AV} {cs : List AV} {y : Value} (hc : avCells a = some cs) (h : Rep cx false a y) : ∃ vals : List Value, y.cells = vals.toArray ∧ RepL cx false cs vals := by
  have one : y.cells = #[y] → ∃ vals : List Value, y.cells = vals.toArray ∧ RepL cx false [a] vals := fun he => ⟨[y], by rw [he], (RepL.nil cx false).cons h⟩
  have cell1 : ∀ z : Value, z.oneCell' = true → z.cells = #[z] := fun z hz => by cases z <;> first | rfl | simp [Value.oneCell'] at hz
  cases h with
  | v x => simp [avCells] at hc; subst hc; exact ⟨y.cells.toList, by simp, RepL.of_v _ _ _⟩
  | agg cs' vals hn hr => simp [avCells] at hc; subst hc; exact ⟨vals, rfl, hn, hr⟩
  | junk y => simp [avCells] at hc
  | rp k ver i off y ho bl hk hp => simp [avCells] at hc; subst hc; exact one (cell1 _ ho)
  | hs k off n ver y ho bl hk hp => simp [avCells] at hc; subst hc; exact one (cell1 _ ho)
  | _ => simp [avCells] at hc; subst hc; exact one rfl
theorem Rep.one {cx : Cx} {z : Bool} {a : AV} {y : Value} (h : Rep cx z a y) (ha : a.one = true) : y.oneCell' = true := by
  cases h with
  | v x => simpa [AV.one] using ha
  | agg cs vals hn hr => simp [AV.one] at ha
  | tup cs vals hn hr => simp [AV.one] at ha
  | junk y => simp [AV.one] at ha
  | rp k ver i off y ho bl hk hp => exact ho
  | hs k off n ver y ho bl hk hp => exact ho
  | _ => rfl
theorem RepL.one {cx : Cx} {z : Bool} {cs : List AV} {vals : List Value} (h : RepL cx z cs vals) (ha : cs.all AV.one = true) : ∀ y ∈ vals, y.oneCell' = true := by
  intro y hy
  obtain ⟨j, hj⟩ := List.mem_iff_getElem?.1 hy
  have hlt : j < cs.length := by rw [h.len]; exact (List.getElem?_eq_some_iff.1 hj).1
  have hc : cs[j]? = some cs[j] := List.getElem?_eq_getElem hlt
  exact (h.rep j _ y hc hj).one (List.all_eq_true.1 ha _ (List.getElem_mem hlt))
theorem Rep.strong {cx : Cx} {a : AV} {y : Value} (h : Rep cx false a y) (ha : a.frzB = true) : Rep cx true a y := by
  generalize hb : false = b at h
  induction h with
  | v x => exact .v x
  | vs0 sz a cap => exact .vs0 sz a cap
  | vs sz es b o cap vals hf hz hcap hl hn ho hc hr _ => exact .vs sz es b o cap vals hf hz hcap hl hn ho hc hr
  | vx sz es b o vals hf hz hl hn ho hc hr _ => exact .vx sz es b o vals hf hz hl hn ho hc hr
  | vp cs b o vals hf hn hc hr _ => exact .vp cs b o vals hf hn hc hr
  | ifc t x y h ih => exact .ifc t x y (ih (by simpa [AV.frzB] using ha) hb)
  | junk y => exact .junk y
  | agg cs vals hn hr ih =>
    cases cs with
    | nil => exact .agg [] vals hn (fun j c x h => by simp at h)
    | cons c cs => simp [AV.frzB] at ha
  | _ => simp [AV.frzB] at ha
theorem RepL.strong {cx : Cx} {cs : List AV} {vals : List Value} (h : RepL cx false cs vals) (ha : cs.all AV.frzB = true) : RepL cx true cs vals :=
  ⟨h.len, fun j c x h1 h2 => (h.rep j c x h1 h2).strong (List.all_eq_true.1 ha _ (List.mem_of_getElem? h1))⟩
def cellsAt (H : List Blk) : AV → Option (List AV)
  | .vp cs => some cs
  | .bp k off => match H[k]? with | some (.box _ cs) => some (cs.drop off) | _ => none
  | .rp k ver i off => match H[k]? with | some (.row _ _ es) => if es.length = ver then (es[i]?).map (·.drop off) else none | _ => none
  | _ => none
theorem flatten_at {α : Type} : ∀ (es : List (List α)) (sz i : Nat) (e : List α), (∀ e ∈ es, e.length = sz) → es[i]? = some e → ∀ (j : Nat) c, e[j]? = some c → es.flatten[i * sz + j]? = some c
  | [], sz, i, e, _, h => by simp at h
  | d :: ds, sz, i, e, hl, h => by
    intro j c hc
    have hd : d.length = sz := hl d (by simp)
    cases i with
    | zero =>
      simp at h; subst h
      rw [List.flatten_cons, List.getElem?_append_left (by have := (List.getElem?_eq_some_iff.1 hc).1; omega)]
      simpa using hc
    | succ i =>
      have ih := flatten_at ds sz i e (fun e he => hl e (by simp [he])) (by simpa using h) j c hc
      rw [List.flatten_cons, List.getElem?_append_right (by rw [hd, Nat.succ_mul]; omega)]
      rw [show (i + 1) * sz + j - d.length = i * sz + j by rw [hd, Nat.succ_mul]; omega]
      exact ih
theorem flatten_len {α : Type} : ∀ (es : List (List α)) (sz : Nat), (∀ e ∈ es, e.length = sz) → es.flatten.length = es.length * sz
  | [], sz, _ => by simp
  | d :: ds, sz, hl => by
    rw [List.flatten_cons, List.length_append, flatten_len ds sz (fun e he => hl e (by simp [he])), hl d (by simp), List.length_cons, Nat.succ_mul]; omega
theorem cellsAt_rep {B : Nat} {w0 : World} {cx : Cx} (h : HRel B w0 cx) {a : AV} {cs : List AV} {y : Value} (hc : cellsAt cx.H a = some cs) (hr : Rep cx false a y) :
    ∃ (b o : Nat) (vals : List Value), y = .pointer (some ⟨b, o, none⟩) ∧ RepL cx false cs vals ∧ ∀ (j : Nat) x, vals[j]? = some x → cx.w.cell? ⟨b, o + j, none⟩ = some x := by
  cases hr with
  | vp cs' b o vals hf hn hcc hrr =>
    simp [cellsAt] at hc; subst hc
    exact ⟨b, o, vals, rfl, (RepL.mk hn hrr).weak, hcc⟩
  | bp k off bl hk hf =>
    simp only [cellsAt] at hc
    split at hc
    · rename_i t cs' hk'
      simp at hc; subst hc
      obtain ⟨h1, h2, vals, h3, h4⟩ := h.blk k _ hk'
      refine ⟨cx.κ k, off, vals.drop off, rfl, h4.drop off, fun j x hx => ?_⟩
      rw [cell_of_row _ _ _ _ _ _ h3]
      rw [List.getElem?_drop] at hx
      simpa using hx
    · cases hc
  | rp k ver i off y ho bl hk hp =>
    simp only [cellsAt] at hc
    split at hc
    · rename_i t sz es hk'
      split at hc
      · rename_i hv
        rw [hk'] at hk; cases hk
        rcases hp with hf | ⟨t', sz', es', he, hle, hy⟩
        · simp [Blk.fixed] at hf
        · cases he
          obtain ⟨h1, h2, h3, h4, h5, h6, vals, h7, h8, h9, h10⟩ := h.blk k _ hk'
          cases hi : es[i]? with
          | none => rw [hi] at hc; simp at hc
          | some e =>
            rw [hi] at hc; simp at hc; subst hc
            have hel : e.length = sz := h4 e (List.mem_of_getElem? hi)
            have hil : i < es.length := (List.getElem?_eq_some_iff.1 hi).1
            have hseg : ∀ (j : Nat) c, (e.drop off)[j]? = some c → es.flatten[i * sz + off + j]? = some c := fun j c hj => by
              rw [List.getElem?_drop] at hj
              rw [Nat.add_assoc]
              exact flatten_at es sz i e h4 hi _ c hj
            refine ⟨cx.κ k, i * sz + off, ((vals.take (es.length * sz)).drop (i * sz + off)).take (sz - off), hy hv, ⟨?_, fun j c x h1' h2' => ?_⟩, fun j x hx => ?_⟩
            · have : (i + 1) * sz ≤ es.length * sz := Nat.mul_le_mul_right _ hil
              have : es.length * sz ≤ cx.γ k * sz := Nat.mul_le_mul_right _ h5
              simp only [List.length_drop, List.length_take, hel, h8]
              rw [Nat.succ_mul] at *
              omega
            · have hj := hseg j c h1'
              rw [List.getElem?_take] at h2'
              split at h2'
              · rw [List.getElem?_drop] at h2'; exact h9.rep _ c x hj h2'
              · cases h2'
            · rw [cell_of_row _ _ _ _ _ _ h7]
              rw [List.getElem?_take] at hx
              split at hx
              · rw [List.getElem?_drop, List.getElem?_take] at hx
                split at hx
                · simpa using hx
                · cases hx
              · cases hx
      · cases hc
    · cases hc
  | _ => simp [cellsAt] at hc
def aload (agg : Bool) (sz : Nat) (cs : List AV) : Option AV := if agg then (if sz ≤ cs.length then some (.agg (cs.take sz)) else none) else cs[0]?
theorem run_loadAt {B : Nat} {w0 : World} {P : Program} {cx : Cx} (h : HRel B w0 cx) {t : TypeId} {sz : Nat} {agg : Bool} (hz : szOf P t = some sz) (ha : aggOf P t = some agg) {a : AV} {cs : List AV} {r : AV} {y : Value}
    (hc : cellsAt cx.H a = some cs) (hl : aload agg sz cs = some r) (hr : Rep cx false a y) : ∃ x, (Instr.loadAt t y).run P cx.w = .ok x cx.w ∧ Rep cx false r x := by
  obtain ⟨b, o, vals, rfl, h1, h2⟩ := cellsAt_rep h hc hr
  unfold aload at hl
  cases agg with
  | true =>
    simp only [if_true] at hl
    split at hl
    · rename_i hle
      simp at hl; subst hl
      have hlen : (vals.take sz).length = sz := by have := h1.len; simp; omega
      have hld := run_loadCells_list (P := P) cx.w ⟨b, o, none⟩ (vals.take sz) (fun j v hv => by
        rw [List.getElem?_take] at hv
        split at hv
        · rw [Addr.add_lit]; exact h2 j v hv
        · cases hv)
      rw [hlen] at hld
      refine ⟨.agg (vals.take sz).toArray, ?_, rep_agg (h1.take sz)⟩
      simp only [Instr.loadAt, Instr.sureAddr, loadVar, Sem.run_bind, Sem.run_pure, Result.andThen_ok, run_isAgg ha, if_true, run_sizeOf hz, hld]
    · cases hl
  | false =>
    simp at hl
    obtain ⟨x, hx, hrx⟩ := h1.get (j := 0) (c := r) hl
    refine ⟨x, ?_, hrx⟩
    have hcell := h2 0 x hx
    simp only [Nat.add_zero] at hcell
    simp [Instr.loadAt, Instr.sureAddr, loadVar, Sem.run_bind, Sem.run_pure, Result.andThen_ok, run_isAgg ha, hcell]
def spl {α : Type} (cs : List α) (off : Nat) (xs : List α) : List α := cs.take off ++ xs ++ cs.drop (off + xs.length)
theorem spl_length {α : Type} (cs : List α) (off : Nat) (xs : List α) (h : off + xs.length ≤ cs.length) : (spl cs off xs).length = cs.length := by
  simp [spl]; omega
theorem spl_mem {α : Type} {p : α → Prop} {cs xs : List α} {off : Nat} (h : ∀ x ∈ cs, p x) (k : ∀ x ∈ xs, p x) : ∀ x ∈ spl cs off xs, p x := by
  intro x hx
  simp only [spl, List.mem_append] at hx
  rcases hx with (hx | hx) | hx
  · exact h x (List.mem_of_mem_take hx)
  · exact k x hx
  · exact h x (List.mem_of_mem_drop hx)
theorem spl_take {α : Type} (l : List α) (o n : Nat) (xs : List α) (h : o + xs.length ≤ n) (hn : n ≤ l.length) : (spl l o xs).take n = spl (l.take n) o xs := by
  have e1 : (l.take o).length = o := by simp; omega
  unfold spl
  rw [List.take_append, List.take_of_length_le (by simp; omega), List.take_take, Nat.min_eq_left (by omega), List.drop_take]
  congr 2
  simp; omega
theorem RepL.spl {cx : Cx} {z : Bool} {cs ds : List AV} {xs ys : List Value} (h : RepL cx z cs xs) (off : Nat) (k : RepL cx z ds ys) : RepL cx z (spl cs off ds) (spl xs off ys) := by
  unfold Mu.spl
  rw [k.len]
  exact ((h.take off).append k).append (h.drop _)
theorem run_storeCells_row {P : Program} {cx : Cx} {g o : Nat} {t : TypeId} {cur vs : List Value} (hg : cx.w.heap[g]? = some (.cells cur.toArray t (0, 0))) (hl : o + vs.length ≤ cur.length) (h1 : ∀ v ∈ vs, v.oneCell' = true) :
    (storeCells ⟨g, o, none⟩ vs).run P cx.w = .ok () (cx.w.setRow g (spl cur o vs).toArray) := by
  have := run_storeCells_at P g o t vs 0 cur.toArray cx.w hg (by simpa using hl) h1
  simpa [spl] using this
def astore (H : List Blk) (p : AV) (xs : List AV) : Option (List Blk) :=
  match p with
  | .bp k off => match H[k]? with | some (.box t cs) => if off + xs.length ≤ cs.length then some (H.set k (.box t (spl cs off xs))) else none | _ => none
  | .rp k ver i off => match H[k]? with
    | some (.row t sz es) => if es.length = ver then (match es[i]? with | some e => if off + xs.length ≤ e.length then some (H.set k (.row t sz (es.set i (spl e off xs)))) else none | none => none) else none
    | _ => none
  | _ => none
theorem spl_flatten {α : Type} : ∀ (es : List (List α)) (sz i off : Nat) (e xs : List α), (∀ e ∈ es, e.length = sz) → es[i]? = some e → off + xs.length ≤ sz →
    (es.set i (spl e off xs)).flatten = spl es.flatten (i * sz + off) xs
  | [], sz, i, off, e, xs, _, h, _ => by simp at h
  | d :: ds, sz, i, off, e, xs, hl, h, hx => by
    have hd : d.length = sz := hl d (by simp)
    cases i with
    | zero =>
      simp at h; subst h
      simp only [List.set_cons_zero, List.flatten_cons, spl, Nat.zero_mul, Nat.zero_add]
      rw [List.take_append_of_le_length (by omega), List.drop_append_of_le_length (by omega)]
      simp [List.append_assoc]
    | succ i =>
      have ih := spl_flatten ds sz i off e xs (fun e he => hl e (by simp [he])) (by simpa using h) hx
      rw [List.set_cons_succ, List.flatten_cons, List.flatten_cons, ih]
      simp only [spl]
      rw [show (i + 1) * sz + off = d.length + (i * sz + off) by rw [hd, Nat.succ_mul]; omega]
      rw [List.take_length_add_append, Nat.add_assoc d.length, List.drop_length_add_append]
      simp [List.append_assoc]
theorem run_storeAt {B : Nat} {w0 : World} {P : Program} {cx : Cx} (h : HRel B w0 cx) {t : TypeId} {sz : Nat} (hz : szOf P t = some sz) {p v : AV} {xs : List AV} {H' : List Blk} {y x : Value}
    (hx : avCells v = some xs) (hlen : xs.length = sz) (hone : xs.all AV.one = true) (hs : astore cx.H p xs = some H') (hp : Rep cx false p y) (hv : Rep cx false v x) :
    ∃ cx', (Instr.storeAt t y x).run P cx.w = .ok () cx'.w ∧ HRel B w0 cx' ∧ Le cx cx' ∧ cx'.H = H' := by
  obtain ⟨vals, hcx, hrv⟩ := avCells_rep hx hv
  have hvl : vals.length = sz := by rw [← hrv.len, hlen]
  have h1 := hrv.one hone
  cases hp with
  | bp k off bl hk hf =>
    simp only [astore] at hs
    split at hs
    · rename_i t' cs hk'
      split at hs
      · rename_i hle
        simp at hs; subst hs
        obtain ⟨b1, b2, cur, b3, b4⟩ := h.blk k _ hk'
        have hst := run_storeCells_row (P := P) (cx := cx) (o := off) b3 (vs := vals) (by rw [← b4.len, ← hrv.len]; exact hle) h1
        obtain ⟨c1, c2⟩ := put_box h hk' (b4.spl off hrv)
        refine ⟨_, ?_, c2, c1, rfl⟩
        simp only [Instr.storeAt, Instr.sureAddr, storeVar, Sem.run_bind, Sem.run_pure, Result.andThen_ok, run_sizeOf hz, hcx, List.size_toArray, hvl, ne_eq, not_true_eq_false, if_false]
        exact hst
      · cases hs
    · cases hs
  | rp k ver i off y ho bl hk hp =>
    simp only [astore] at hs
    split at hs
    · rename_i t' z es hk'
      split at hs
      · rename_i hver
        split at hs
        · rename_i e he
          split at hs
          · rename_i hle
            simp at hs; subst hs
            rw [hk'] at hk; cases hk
            rcases hp with hf | ⟨t'', sz', es', heq, hle', hy⟩
            · simp [Blk.fixed] at hf
            · cases heq
              obtain ⟨b1, b2, b3, b4, b5, b6, cur, b7, b8, b9, b10⟩ := h.blk k _ hk'
              have hel : e.length = z := b4 e (List.mem_of_getElem? he)
              have hil : i < es.length := (List.getElem?_eq_some_iff.1 he).1
              have hmul : (i + 1) * z ≤ es.length * z := Nat.mul_le_mul_right _ hil
              have hmul2 : es.length * z ≤ cx.γ k * z := Nat.mul_le_mul_right _ b5
              rw [Nat.succ_mul] at hmul
              have hxl : xs.length = vals.length := hrv.len
              rw [hy hver]
              have hst := run_storeCells_row (P := P) (cx := cx) (o := i * z + off) b7 (vs := vals) (by rw [b8]; omega) h1
              have hfl := spl_flatten es z i off e xs b4 he (by omega)
              obtain ⟨c1, c2⟩ := put_row (es' := es.set i (spl e off xs)) (vals' := spl cur (i * z + off) vals) h hk' (fun e' he' => by
                  rcases List.mem_or_eq_of_mem_set he' with hm | rfl
                  · exact b4 _ hm
                  · rw [spl_length _ _ _ hle, hel]) (by simp) (by simpa using b5) (by rw [spl_length _ _ _ (by rw [b8]; omega), b8]) (by
                  have ht : (spl cur (i * z + off) vals).take (es.length * z) = spl (cur.take (es.length * z)) (i * z + off) vals := spl_take _ _ _ _ (by omega) (by rw [b8]; exact hmul2)
                  rw [List.length_set, ht, hfl]
                  exact b9.spl _ hrv) (spl_mem b10 h1)
              refine ⟨_, ?_, c2, c1, rfl⟩
              simp only [Instr.storeAt, Instr.sureAddr, storeVar, Sem.run_bind, Sem.run_pure, Result.andThen_ok, run_sizeOf hz, hcx, List.size_toArray, hvl, ne_eq, not_true_eq_false, if_false]
              exact hst
          · cases hs
        · cases hs
      · cases hs
    · cases hs
  | _ => simp [astore] at hs
end Go.Mu
namespace Go.Mu
open Go.RowKit (Below)
def bindO {α : Type} (o : Option α) (k : α → Prop) : Prop := ∃ a, o = some a ∧ k a
def bindV (a : AV) (k : AV → Prop) : Prop := k a
def andV (c k : Prop) : Prop := c ∧ k
section
variable {P : Program} {o : Oper} {ρ : Operand → AV} {H : List Blk} {K pan : AV → List Blk → Prop}
theorem opsem_val (h : ∀ B w0 cx (ρc : Operand → Value), HRel B w0 cx → cx.H = H → (∀ x ∈ o.op.operands, Rep cx false (ρ x) (ρc x)) →
    ∃ cx' r y, (execOp ρc o).run P cx.w = .ok (.value y) cx'.w ∧ HRel B w0 cx' ∧ Le cx cx' ∧ Rep cx' false r y ∧ K r cx'.H) : OpSem P o ρ H K pan := by
  intro B w0 cx ρc h1 h2 h3
  obtain ⟨cx', r, y, hr, rest⟩ := h B w0 cx ρc h1 h2 h3
  rw [hr]
  exact ⟨cx', r, rfl, rest⟩
theorem opsem_skip (h : ∀ B w0 cx (ρc : Operand → Value), HRel B w0 cx → cx.H = H → (∀ x ∈ o.op.operands, Rep cx false (ρ x) (ρc x)) →
    ∃ cx', (execOp ρc o).run P cx.w = .ok .skip cx'.w ∧ HRel B w0 cx' ∧ Le cx cx' ∧ K (.tup []) cx'.H) : OpSem P o ρ H K pan := by
  intro B w0 cx ρc h1 h2 h3
  obtain ⟨cx', hr, rest⟩ := h B w0 cx ρc h1 h2 h3
  rw [hr]
  exact ⟨cx', rfl, rest⟩
theorem opsem_same (h : ∀ cx (ρc : Operand → Value) B w0, HRel B w0 cx → cx.H = H → (∀ x ∈ o.op.operands, Rep cx false (ρ x) (ρc x)) →
    ∃ r y, (execOp ρc o).run P cx.w = .ok (.value y) cx.w ∧ Rep cx false r y ∧ K r H) : OpSem P o ρ H K pan :=
  opsem_val fun B w0 cx ρc h1 h2 h3 => let ⟨r, y, a, b, c⟩ := h cx ρc B w0 h1 h2 h3; ⟨cx, r, y, a, h1, Le.refl cx, b, h2 ▸ c⟩
theorem sound_move {x : Operand} (ho : o.op = .move x ∨ o.op = .assign x) (h : K (ρ x) H) : OpSem P o ρ H K pan := by
  refine opsem_same fun cx ρc B w0 h1 h2 h3 => ⟨ρ x, ρc x, ?_, h3 x ?_, h⟩
  · rcases ho with ho | ho <;> simp [execOp, ho]
  · rcases ho with ho | ho <;> simp [Op.operands, ho]
theorem sound_pick {c a b : Operand} (ho : o.op = .pick c a b) (h : condV (ρ c) (K (ρ a) H) (K (ρ b) H)) : OpSem P o ρ H K pan := by
  refine opsem_same fun cx ρc B w0 h1 h2 h3 => ?_
  have hc := h3 c (by simp [Op.operands, ho])
  have ha := h3 a (by simp [Op.operands, ho])
  have hb := h3 b (by simp [Op.operands, ho])
  unfold condV at h
  split at h
  · rename_i hv; rw [hv] at hc; have := hc.v_inv
    exact ⟨_, ρc a, by simp [execOp, ho, this, asBool], ha, h⟩
  · rename_i hv; rw [hv] at hc; have := hc.v_inv
    exact ⟨_, ρc b, by simp [execOp, ho, this, asBool], hb, h⟩
  · exact h.elim
theorem sound_alloc {t : TypeId} (ho : o.op = .alloc t) (h : bindO (zeroOf P t) fun z => K (.bp H.length 0) (H ++ [.box t (z.cells.toList.map .v)])) : OpSem P o ρ H K pan := by
  obtain ⟨z, hz, hk⟩ := h
  refine opsem_val fun B w0 cx ρc h1 h2 h3 => ?_
  have hp := push_box h1 t (RepL.of_v cx false z.cells.toList)
  refine ⟨_, .bp cx.H.length 0, .pointer (some ⟨cx.w.heap.size, 0, none⟩), ?_, hp, le_push _ _ _ _, ?_, ?_⟩
  · simp [execOp, ho, Instr.alloc, run_zeroOf hz, newVar, newRow, Cx.push]
  · have : (Cx.push cx (.cells z.cells.toList.toArray t (0, 0)) (.box t (z.cells.toList.map .v)) 0).κ cx.H.length = cx.w.heap.size := updN_same _ _ _
    rw [← this]
    exact .bp _ 0 (.box t (z.cells.toList.map .v)) (by simp [Cx.push]) rfl
  · rw [h2]; exact h2 ▸ hk
theorem sound_box {t : TypeId} {x : Operand} (ho : o.op = .box t x) (h : bindO (avCells (ρ x)) fun cs => K (.bp H.length 0) (H ++ [.box t cs])) : OpSem P o ρ H K pan := by
  obtain ⟨cs, hc, hk⟩ := h
  refine opsem_val fun B w0 cx ρc h1 h2 h3 => ?_
  obtain ⟨vals, hv, hr⟩ := avCells_rep hc (h3 x (by simp [Op.operands, ho]))
  have hp := push_box h1 t hr
  refine ⟨_, .bp cx.H.length 0, .pointer (some ⟨cx.w.heap.size, 0, none⟩), ?_, hp, le_push _ _ _ _, ?_, ?_⟩
  · simp [execOp, ho, Instr.box, newVar, newRow, Cx.push, hv]
  · have : (Cx.push cx (.cells vals.toArray t (0, 0)) (.box t cs) 0).κ cx.H.length = cx.w.heap.size := updN_same _ _ _
    rw [← this]
    exact .bp _ 0 (.box t cs) (by simp [Cx.push]) rfl
  · rw [h2]; exact h2 ▸ hk
theorem sound_load {t : TypeId} {x : Operand} (ho : o.op = .load t x)
    (h : bindO (cellsAt H (ρ x)) fun cs => bindO (szOf P t) fun sz => bindO (aggOf P t) fun b => bindO (aload b sz cs) fun r => K r H) : OpSem P o ρ H K pan := by
  obtain ⟨cs, hc, sz, hz, b, hb, r, hl, hk⟩ := h
  refine opsem_same fun cx ρc B w0 h1 h2 h3 => ?_
  obtain ⟨y, hy, hr⟩ := run_loadAt h1 hz hb (h2 ▸ hc) hl (h3 x (by simp [Op.operands, ho]))
  exact ⟨r, y, by simp [execOp, ho, hy], hr, hk⟩
theorem sound_store {t : TypeId} {a x : Operand} (ho : o.op = .store t a x)
    (h : bindO (avCells (ρ x)) fun xs => andV (szOf P t = some xs.length ∧ xs.all AV.one = true) (bindO (astore H (ρ a) xs) fun H' => K (.tup []) H')) : OpSem P o ρ H K pan := by
  obtain ⟨xs, hx, ⟨hz, hone⟩, H', hs, hk⟩ := h
  refine opsem_skip fun B w0 cx ρc h1 h2 h3 => ?_
  obtain ⟨cx', hr, a1, a2, a3⟩ := run_storeAt h1 hz hx rfl hone (h2 ▸ hs) (h3 a (by simp [Op.operands, ho])) (h3 x (by simp [Op.operands, ho]))
  exact ⟨cx', by simp [execOp, ho, hr], a1, a2, a3 ▸ hk⟩
def padd : AV → Nat → Option AV
  | .bp k off, n => some (.bp k (off + n))
  | .rp k ver i off, n => some (.rp k ver i (off + n))
  | .vp cs, n => some (.vp (cs.drop n))
  | _, _ => none
theorem padd_rep {cx : Cx} {a r : AV} {n : Nat} {y : Value} (hp : padd a n = some r) (h : Rep cx false a y) (hlive : ∀ k ver i off, a = .rp k ver i off → ∃ t sz es, cx.H[k]? = some (.row t sz es) ∧ es.length = ver) :
    ∃ b o, y = .pointer (some ⟨b, o, none⟩) ∧ Rep cx false r (.pointer (some ⟨b, o + n, none⟩)) := by
  cases h with
  | bp k off bl hk hf => simp [padd] at hp; subst hp; exact ⟨_, _, rfl, .bp k (off + n) bl hk hf⟩
  | vp cs b o vals hf hn hc hr =>
    simp [padd] at hp; subst hp
    have hd := (RepL.mk hn hr).drop n
    refine ⟨_, _, rfl, .vp (cs.drop n) b (o + n) (vals.drop n) hf hd.len (fun j x hx => ?_) hd.rep⟩
    rw [List.getElem?_drop] at hx
    rw [Nat.add_assoc]; exact hc _ x hx
  | rp k ver i off y ho bl hk hp' =>
    simp [padd] at hp; subst hp
    obtain ⟨t, sz, es, h1, h2⟩ := hlive k ver i off rfl
    rw [hk] at h1; cases h1
    rcases hp' with hf | ⟨t', sz', es', he, hle, hy⟩
    · simp [Blk.fixed] at hf
    · cases he
      refine ⟨_, _, hy h2, .rp k ver i (off + n) _ rfl _ hk (.inr ⟨t, sz, es, rfl, hle, fun _ => ?_⟩)⟩
      rw [Nat.add_assoc]
  | _ => simp [padd] at hp
theorem sound_fieldAddr {s : TypeId} {x : Operand} {i : Nat} (ho : o.op = .fieldAddr s x i)
    (h : bindO (fldOf P s i) fun fl => bindO (cellsAt H (ρ x)) fun _ => andV (fl.2.1 ≠ 0) (bindO (padd (ρ x) fl.1) fun p => K p H)) : OpSem P o ρ H K pan := by
  obtain ⟨⟨off, sz, b⟩, hf, cs, hcs, hne, p, hp, hk⟩ := h
  refine opsem_same fun cx ρc B w0 h1 h2 h3 => ?_
  have hx := h3 x (by simp [Op.operands, ho])
  have hcs' : cellsAt cx.H (ρ x) = some cs := h2 ▸ hcs
  obtain ⟨b', o', hy, hr⟩ := padd_rep hp hx (fun k ver i off he => by
    rw [he] at hcs'
    simp only [cellsAt] at hcs'
    split at hcs'
    · rename_i t sz es hk
      split at hcs'
      · rename_i hv; exact ⟨t, sz, es, hk, hv⟩
      · cases hcs'
    · cases hcs')
  refine ⟨p, .pointer (some ⟨b', o' + off, none⟩), ?_, hr, hk⟩
  unfold fldOf at hf
  split at hf
  · rename_i fs hu
    split at hf
    · rename_i f hfi
      split at hf
      · rename_i sz' b'' hsz hb
        simp only [Option.some.injEq, Prod.mk.injEq] at hf
        obtain ⟨rfl, rfl, rfl⟩ := hf
        simp [execOp, ho, Instr.fieldAt, run_underlying hu, hfi, hy, Instr.sureAddr, fieldPlace, run_sizeOf hsz, hne, Addr.add_lit]
      · cases hf
    · cases hf
  · cases hf
def partA (agg : Bool) (sz off : Nat) (cs : List AV) : Option AV := if agg then (if off + sz ≤ cs.length then some (.agg ((cs.drop off).take sz)) else none) else cs[off]?
theorem run_part {P : Program} {w : World} {cx : Cx} {t : TypeId} {sz off : Nat} {agg : Bool} (hz : szOf P t = some sz) (ha : aggOf P t = some agg) {z : Bool} {cs : List AV} {vals : List Value} (hr : RepL cx z cs vals) {r : AV}
    (hp : partA agg sz off cs = some r) : ∃ y, (part t vals.toArray off).run P w = .ok y w ∧ Rep cx z r y := by
  unfold partA at hp
  cases agg with
  | true =>
    simp only [if_true] at hp
    split at hp
    · rename_i hle
      simp at hp; subst hp
      refine ⟨.agg ((vals.drop off).take sz).toArray, ?_, rep_agg ((hr.drop off).take sz)⟩
      simp only [part, Sem.run_bind, run_isAgg ha, Result.andThen_ok, if_true, run_sizeOf hz, Sem.run_pure]
      congr 2
      apply Array.ext'
      simp [List.extract_eq_take_drop]
    · cases hp
  | false =>
    simp at hp
    obtain ⟨y, hy, hry⟩ := hr.get hp
    exact ⟨y, by simp [part, run_isAgg ha, hy], hry⟩
theorem fldOf_spec {s i off sz : Nat} {b : Bool} (h : fldOf P s i = some (off, sz, b)) : ∃ fs f, P.underlying s = some (.struct fs) ∧ fs[i]? = some f ∧ f.offset = off ∧ szOf P f.type = some sz ∧ aggOf P f.type = some b := by
  unfold fldOf at h
  split at h
  · rename_i fs hu
    split at h
    · rename_i f hfi
      split at h
      · rename_i sz' b'' hsz hb
        simp only [Option.some.injEq, Prod.mk.injEq] at h
        obtain ⟨rfl, rfl, rfl⟩ := h
        exact ⟨fs, f, hu, hfi, rfl, hsz, hb⟩
      · cases h
    · cases h
  · cases h
def aggCells : AV → Option (List AV)
  | .agg cs => some cs
  | _ => none
theorem sound_field {s : TypeId} {x : Operand} {i : Nat} (ho : o.op = .field s x i)
    (h : bindO (fldOf P s i) fun fl => bindO (aggCells (ρ x)) fun cs => bindO (partA fl.2.2 fl.2.1 fl.1 cs) fun r => K r H) : OpSem P o ρ H K pan := by
  obtain ⟨⟨off, sz, b⟩, hf, cs, hcs, r, hp, hk⟩ := h
  obtain ⟨fs, f, hu, hfi, rfl, hsz, hb⟩ := fldOf_spec hf
  refine opsem_same fun cx ρc B w0 h1 h2 h3 => ?_
  have hx := h3 x (by simp [Op.operands, ho])
  have he : ρ x = .agg cs := by
    generalize ρ x = a at hcs
    cases a <;> simp [aggCells] at hcs; subst hcs; rfl
  rw [he] at hx
  obtain ⟨vals, hy, hr⟩ := hx.agg_inv
  obtain ⟨y, h1', h2'⟩ := run_part (w := cx.w) hsz hb hr hp
  exact ⟨r, y, by simp [execOp, ho, Instr.field, run_underlying hu, hfi, hy, asAgg, h1'], h2', hk⟩
def idxV (H : List Blk) (sz : Nat) (x : AV) (i : Int) (k : AV → Prop) : Prop :=
  match x with
  | .vs sz' es => andV (sz' = sz ∧ 0 ≤ i) (bindO es[i.toNat]? fun e => k (.vp e))
  | .hs h off n ver => match H[h]? with | some (.row _ z es) => andV (z = sz ∧ es.length = ver ∧ 0 ≤ i ∧ i < n) (k (.rp h ver (off + i.toNat) 0)) | _ => False
  | .bs h off n => andV (0 ≤ i ∧ i < n) (k (.bp h (off + i.toNat * sz)))
  | _ => False
def intA : AV → Option Int
  | .v (.int _ n) => some n
  | _ => none
theorem intA_spec {a : AV} {n : Int} (h : intA a = some n) : ∃ k, a = .v (.int k n) := by
  cases a <;> simp [intA] at h
  rename_i x
  cases x <;> simp [intA] at h
  subst h; exact ⟨_, rfl⟩
theorem run_indexAt_vs {t e : TypeId} {sz : Nat} (hu : P.underlying t = some (.slice e)) (hz : szOf P e = some sz) (w : World) (b o len cap : Nat) (k : IntKind) (i : Int) (h0 : 0 ≤ i) (h1 : i < len) :
    (Instr.indexAt t (.slice (some ⟨b, o, none⟩) len cap) (.int k i)).run P w = .ok (.pointer (some ⟨b, o + i.toNat * sz, none⟩)) w := by
  simp [Instr.indexAt, asIntOf, run_underlying hu, h0, h1, run_sizeOf hz, Addr.add_lit]
theorem sound_indexAddr {t : TypeId} {x i : Operand} (ho : o.op = .indexAddr t x i)
    (h : bindO (elOf P t) fun e => bindO (szOf P e) fun sz => bindO (intA (ρ i)) fun n => idxV H sz (ρ x) n fun r => K r H) : OpSem P o ρ H K pan := by
  obtain ⟨e, he, sz, hz, n, hn, h⟩ := h
  have hu : P.underlying t = some (.slice e) := by
    unfold elOf at he; split at he
    · rename_i e' hu; cases he; exact hu
    · cases he
  refine opsem_same fun cx ρc B w0 h1 h2 h3 => ?_
  have hx := h3 x (by simp [Op.operands, ho])
  have hi := h3 i (by simp [Op.operands, ho])
  obtain ⟨k, hk⟩ := intA_spec hn
  rw [hk] at hi
  have hi' := hi.v_inv
  unfold idxV at h
  split at h
  · rename_i sz' es hes
    obtain ⟨⟨rfl, h0⟩, el, hel, hK⟩ := h
    rw [hes] at hx
    have hil : n.toNat < es.length := (List.getElem?_eq_some_iff.1 hel).1
    generalize hy : ρc x = y at hx
    cases hx with
    | vs0 => simp at hel
    | vs _ _ b o' cap vals hf hzz hcap hl hnn hone hc hr =>
      refine ⟨.vp el, .pointer (some ⟨b, o' + n.toNat * sz', none⟩), ?_, ?_, hK⟩
      · have := run_indexAt_vs (P := P) hu hz cx.w b o' es.length cap k n h0 (by omega)
        simp [execOp, ho, hy, hi', this]
      · have hell : el.length = sz' := hl el (List.mem_of_getElem? hel)
        have hmul : (n.toNat + 1) * sz' ≤ es.length * sz' := Nat.mul_le_mul_right _ hil
        have hfl := flatten_len es sz' hl
        rw [Nat.succ_mul] at hmul
        refine .vp el b (o' + n.toNat * sz') ((vals.drop (n.toNat * sz')).take sz') hf (by simp; omega) (fun j x hx => ?_) (fun j c x h1' h2' => ?_)
        · rw [List.getElem?_take] at hx
          split at hx
          · rw [List.getElem?_drop] at hx
            rw [Nat.add_assoc]; exact hc _ x hx
          · cases hx
        · rw [List.getElem?_take] at h2'
          split at h2'
          · rw [List.getElem?_drop] at h2'
            exact hr _ c x (flatten_at es sz' _ el hl hel j c h1') h2'
          · cases h2'
  · rename_i h' off n' ver hes
    split at h
    · rename_i t' z es hk'
      obtain ⟨⟨rfl, rfl, h0, hlt⟩, hK⟩ := h
      rw [hes] at hx
      generalize hy : ρc x = y at hx
      cases hx with
      | hs _ _ _ _ _ hone bl hk'' hp =>
        rw [h2, hk'] at hk''; cases hk''
        rcases hp with hf | ⟨t'', sz'', es', heq, hle, hyy⟩
        · simp [Blk.fixed] at hf
        · cases heq
          obtain ⟨hle2, hy2⟩ := hyy rfl
          refine ⟨.rp h' es.length (off + n.toNat) 0, .pointer (some ⟨cx.κ h', off * z + n.toNat * z, none⟩), ?_, ?_, hK⟩
          · have := run_indexAt_vs (P := P) hu hz cx.w (cx.κ h') (off * z) n' (cx.γ h' - off) k n h0 hlt
            rw [hy2] at hy
            simp [execOp, ho, hy, hi', this]
          · refine .rp h' es.length (off + n.toNat) 0 _ rfl _ (by rw [h2]; exact hk') (.inr ⟨t', z, es, rfl, Nat.le_refl _, fun _ => ?_⟩)
            rw [Nat.add_mul]; simp
    · exact h.elim
  · rename_i h' off n' hes
    obtain ⟨⟨h0, hlt⟩, hK⟩ := h
    rw [hes] at hx
    generalize hy : ρc x = y at hx
    cases hx with
    | bs _ _ _ cap bl hk' hf hc =>
      refine ⟨.bp h' (off + n.toNat * sz), .pointer (some ⟨cx.κ h', off + n.toNat * sz, none⟩), ?_, .bp h' _ bl hk' hf, hK⟩
      have := run_indexAt_vs (P := P) hu hz cx.w (cx.κ h') off n' cap k n h0 hlt
      simp [execOp, ho, hy, hi', this]
  · exact h.elim
theorem run_getObj_map (P : Program) {w : World} {k : Nat} {es : Array MapEntry} {c : Nat} (h : w.heap[k]? = some (.map es c)) : (getObj k).run P w = .ok (.map es c) w := by
  simp [getObj, Sem.run, h]
def lkOf (P : Program) (t : TypeId) : Nat := match P.underlying t with | some (.slice _) => 1 | some .string => 2 | some (.map _ _) => 3 | _ => 0
def lenV (H : List Blk) (k : Nat) (x : AV) : Option Int :=
  match k, x with
  | 1, .vs _ es => some es.length
  | 1, .hs h _ n ver => match H[h]? with | some (.row _ _ es) => if es.length = ver then some n else none | _ => none
  | 1, .bs _ _ n => some n
  | 1, .v (.slice _ n _) => some n
  | 2, .v (.string s) => some s.size
  | 3, .v (.map none) => some 0
  | 3, .hm h => match H[h]? with | some (.map es) => some es.length | _ => none
  | _, _ => none
theorem sound_len {x : Operand} {t : TypeId} (ho : o.op = .call { callee := .builtin .len, args := #[x], argTypes := #[t] })
    (h : bindO (lenV H (lkOf P t) (ρ x)) fun n => K (.v (.int .i64 n)) H) : OpSem P o ρ H K pan := by
  obtain ⟨n, hn, hK⟩ := h
  refine opsem_same fun cx ρc B w0 h1 h2 h3 => ?_
  have hx := h3 x (by simp [Op.operands, Call.operands, ho])
  refine ⟨.v (.int .i64 n), .int .i64 n, ?_, .v _, hK⟩
  generalize hy : ρc x = y at hx
  have ex : (execOp ρc o).run P cx.w = ((Builtin.len_ #[t] o.type #[y]).run P cx.w).andThen fun v w => .ok (.value v) w := by
    simp [execOp, ho, resolve, invoke, builtin, hy]
  rw [ex]
  generalize ρ x = ax at hn hx
  generalize hl : lkOf P t = lk at hn
  unfold lkOf at hl
  have hd : ∀ d, P.underlying t = some d → (lk = 1 → ∃ e, d = .slice e) ∧ (lk = 2 → d = .string) ∧ (lk = 3 → ∃ a b, d = .map a b) := by
    intro d hd; rw [hd] at hl
    cases d <;> simp at hl <;> subst hl <;> simp
  have hsome : lk ≠ 0 → ∃ d, P.underlying t = some d := by
    intro h0
    cases hu : P.underlying t with
    | none => rw [hu] at hl; simp at hl; omega
    | some d => exact ⟨d, rfl⟩
  unfold lenV at hn
  split at hn
  all_goals (first | (exfalso; simp at hn; done) | skip)
  all_goals (obtain ⟨d, hdd⟩ := hsome (by decide); have hd' := hd d hdd)
  · obtain ⟨e, rfl⟩ := hd'.1 rfl
    simp at hn; subst hn
    cases hx with
    | vs0 sz a cap => simp [Builtin.len_, run_underlying hdd, goInt]
    | vs sz es b o cap vals hf hz hcap hl hnn hone hc hr => simp [Builtin.len_, run_underlying hdd, goInt]
  · obtain ⟨e, rfl⟩ := hd'.1 rfl
    split at hn
    · rename_i t' z es hk'
      split at hn
      · rename_i hv
        simp at hn; subst hn
        cases hx with
        | hs _ _ _ _ _ ho' bl hk hp =>
          rw [h2, hk'] at hk; cases hk
          rcases hp with hf | ⟨t'', sz'', es', heq, hle, hyy⟩
          · simp [Blk.fixed] at hf
          · cases heq
            obtain ⟨_, hy2⟩ := hyy hv
            subst hy2
            simp [Builtin.len_, run_underlying hdd, goInt]
      · cases hn
    · cases hn
  · obtain ⟨e, rfl⟩ := hd'.1 rfl
    simp at hn; subst hn
    cases hx; simp [Builtin.len_, run_underlying hdd, goInt]
  · obtain ⟨e, rfl⟩ := hd'.1 rfl
    simp at hn; subst hn
    cases hx; simp [Builtin.len_, run_underlying hdd, goInt]
  · obtain rfl := hd'.2.1 rfl
    simp at hn; subst hn
    cases hx; simp [Builtin.len_, run_underlying hdd, goInt]
  · obtain ⟨a, b, rfl⟩ := hd'.2.2 rfl
    simp at hn; subst hn
    cases hx; simp [Builtin.len_, run_underlying hdd, goInt]
  · obtain ⟨a, b, rfl⟩ := hd'.2.2 rfl
    split at hn
    · rename_i es hk'
      simp at hn; subst hn
      cases hx with
      | hm _ bl hk hf =>
        obtain ⟨_, _, ents, hh, hl, _⟩ := h1.blk _ _ (h2 ▸ hk')
        have hg := run_getObj_map P hh
        simp [Builtin.len_, run_underlying hdd, goInt, hg, hl]
    · cases hn
end
end Go.Mu
