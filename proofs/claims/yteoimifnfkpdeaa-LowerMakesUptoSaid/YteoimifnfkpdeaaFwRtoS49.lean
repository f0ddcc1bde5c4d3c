/- Ranges over functions. -/
import Derived.Test.YteoimifnfkpdeaaFwQtoS36
set_option linter.unusedVariables false
set_option linter.unusedSimpArgs false
set_option maxHeartbeats 4000000
set_option maxRecDepth 100000
namespace Go.Mu
open Go.RowKit (Below)

/-! ### The loop's record in memory -/
theorem putObj_other (w : World) (r k : Nat) (o : Obj) (h : k ≠ r) : (w.putObj r o).heap[k]? = w.heap[k]? := World.putObj_heap_other h
theorem below_putObj {B : Nat} {w : World} {r : Nat} (o : Obj) (h : B ≤ r) : Below B w (w.putObj r o) := ⟨rfl, rfl, rfl, by simp, fun i hi => World.putObj_heap_other (by omega)⟩
theorem push_dfr {B : Nat} {w0 : World} {cx : Cx} (h : HRel B w0 cx) : HRel B w0 (cx.push (.deferred (some [])) (.dfr true) 0) := by
  refine hrel_push h _ _ _ ⟨?_, ?_, ?_⟩
  · show B ≤ updN _ _ _ _; simp; exact h.base
  · show ¬ cx.Φ (updN _ _ _ _); simp; exact fun hf => Nat.lt_irrefl _ (h.frz _ hf)
  · show (cx.w.alloc _).heap[updN _ _ _ _]? = _; simp only [updN_same]; exact heap_alloc_new _ _
theorem push_lp {B : Nat} {w0 : World} {cx : Cx} (h : HRel B w0 cx) {n : Nat} {f : Fr} {a : Act} (hf : FRel cx n f a) (fn : FuncId) (ps : Array Tmp) (x y : Code) (d : Nat) :
    HRel B w0 (cx.push (.loop { state := .ready, pending := none, fn := fn, tmps := a.tmps, params := ps, assign := x, body := y, defers := d }) (.lp .ready none n f ps x y) 0) := by
  refine hrel_push h _ _ _ ⟨?_, ?_, fn, a.tmps, d, ?_, hf.1, fun t ht => (hf.2 t ht).mono (le_push cx _ _ _)⟩
  · show B ≤ updN _ _ _ _; simp; exact h.base
  · show ¬ cx.Φ (updN _ _ _ _); simp; exact fun hf => Nat.lt_irrefl _ (h.frz _ hf)
  · show (cx.w.alloc _).heap[updN _ _ _ _]? = _; simp only [updN_same]; exact heap_alloc_new _ _
theorem lp_at {B : Nat} {w0 : World} {cx : Cx} (h : HRel B w0 cx) {k : Nat} {st : LoopState} {pd : Option Code} {n : Nat} {f : Fr} {ps : Array Tmp} {x y : Code} (hk : cx.H[k]? = some (.lp st pd n f ps x y)) :
    ∃ (fn : FuncId) (tmps : Array Value) (d : Nat), cx.w.heap[cx.κ k]? = some (.loop { state := st, pending := pd, fn := fn, tmps := tmps, params := ps, assign := x, body := y, defers := d }) ∧ FRel cx n f { tmps := tmps, defers := [] } ∧
      ∀ (st' : LoopState) (pd' : Option Code), Le cx (cx.put k (cx.w.putObj (cx.κ k) (.loop { state := st', pending := pd', fn := fn, tmps := tmps, params := ps, assign := x, body := y, defers := d })) (.lp st' pd' n f ps x y)) ∧
        HRel B w0 (cx.put k (cx.w.putObj (cx.κ k) (.loop { state := st', pending := pd', fn := fn, tmps := tmps, params := ps, assign := x, body := y, defers := d })) (.lp st' pd' n f ps x y)) := by
  obtain ⟨h1, h2, fn, tmps, d, h3, h4, h5⟩ := h.blk k _ hk
  refine ⟨fn, tmps, d, h3, ⟨h4, h5⟩, fun st' pd' => ?_⟩
  have hlt : cx.κ k < cx.w.heap.size := (Array.getElem?_eq_some_iff.1 h3).1
  have hw : ∀ i, i ≠ cx.κ k → i < cx.w.heap.size → (cx.w.putObj (cx.κ k) (.loop { state := st', pending := pd', fn := fn, tmps := tmps, params := ps, assign := x, body := y, defers := d })).heap[i]? = cx.w.heap[i]? := fun i hi _ => World.putObj_heap_other hi
  have hle := le_put (cx := cx) (bl := .lp st' pd' n f ps x y) (w' := cx.w.putObj (cx.κ k) (.loop { state := st', pending := pd', fn := fn, tmps := tmps, params := ps, assign := x, body := y, defers := d })) hk hw h2 (.inl ⟨rfl, rfl⟩)
  refine ⟨hle, hrel_put h hk rfl (below_putObj _ h1) hw hle ⟨h1, h2, fn, tmps, d, World.putObj_heap_same hlt, h4, fun t ht => (h5 t ht).mono hle⟩⟩
theorem dfr_at {B : Nat} {w0 : World} {cx : Cx} (h : HRel B w0 cx) {k : Nat} (hk : cx.H[k]? = some (.dfr true)) :
    cx.w.heap[cx.κ k]? = some (.deferred (some [])) ∧ Le cx (cx.put k (cx.w.putObj (cx.κ k) (.deferred none)) (.dfr false)) ∧ HRel B w0 (cx.put k (cx.w.putObj (cx.κ k) (.deferred none)) (.dfr false)) := by
  obtain ⟨h1, h2, h3⟩ := h.blk k _ hk
  have hlt : cx.κ k < cx.w.heap.size := (Array.getElem?_eq_some_iff.1 h3).1
  have hw : ∀ i, i ≠ cx.κ k → i < cx.w.heap.size → (cx.w.putObj (cx.κ k) (.deferred none)).heap[i]? = cx.w.heap[i]? := fun i hi _ => World.putObj_heap_other hi
  have hle := le_put (cx := cx) (bl := .dfr false) (w' := cx.w.putObj (cx.κ k) (.deferred none)) hk hw h2 (.inl ⟨rfl, rfl⟩)
  exact ⟨h3, hle, hrel_put h hk rfl (below_putObj _ h1) hw hle ⟨h1, h2, World.putObj_heap_same hlt⟩⟩

/-! ### A round -/
/-- Slots, one behind the other, are told anew. -/
def updL : Fr → List Nat → List AV → Fr
  | f, t :: ts, a :: as' => updL (upd f t a) ts as'
  | f, _, _ => f
@[simp] theorem updL_nil (f : Fr) (as' : List AV) : updL f [] as' = f := by cases as' <;> rfl
@[simp] theorem updL_cons (f : Fr) (t : Nat) (ts : List Nat) (a : AV) (as' : List AV) : updL f (t :: ts) (a :: as') = updL (upd f t a) ts as' := rfl
theorem frel_updL {cx : Cx} {n : Nat} : ∀ (ts : List Nat) (avs : List AV) (vals : List Value) (f : Fr) (tmps : Array Value), FRel cx n f { tmps := tmps, defers := [] } → RepL cx false avs vals →
    FRel cx n (updL f ts avs) { tmps := (ts.zip vals).foldl (fun tmps (t, a) => tmps.setIfInBounds t a) tmps, defers := [] }
  | [], avs, vals, f, tmps, h, _ => by simpa using h
  | t :: ts, [], vals, f, tmps, h, hr => by obtain rfl := hr.nil_inv; simpa [updL] using h
  | t :: ts, c :: cs, vals, f, tmps, h, hr => by
    obtain ⟨v, vs, rfl, h1, h2⟩ := hr.cons_inv
    simp only [updL_cons, List.zip_cons_cons, List.foldl_cons]
    refine frel_updL ts cs vs _ _ ⟨by simpa using h.1, fun s hs => ?_⟩ h2
    simp only [upd]
    have hsz : tmps.size = n := h.1
    by_cases he : s = t
    · subst he
      rw [if_pos rfl, Array.getD_eq_getD_getElem?, Array.getElem?_setIfInBounds_self_of_lt (by omega)]; exact h1
    · rw [if_neg he, Array.getD_eq_getD_getElem?, Array.getElem?_setIfInBounds_ne (fun e => he e.symm), ← Array.getD_eq_getD_getElem?]; exact h.2 s hs

/-- What a jump out of a round leaves to be done. -/
def jumpOf : AX → Option Code
  | .ret => some .ret
  | .exit id => some (.exit id)
  | .goto l => some (.goto l)
  | _ => none
/-- What a round comes to: the assignment, then the body. -/
def ARound (P : Program) (n : Nat) (k : Nat) (x y : Code) (ps : Array Tmp) (f f0 : Fr) (M : List Blk) (R : AX → List Blk → Prop) : Prop :=
  AWP P n x (fun e f1 M1 ds1 => e = .normal ∧ ds1 = [] ∧ M1[k]? = some (.lp .ready none n f0 ps x y) ∧
    AWP P n y (fun e f2 M2 ds2 => ds2 = [] ∧ M2[k]? = some (.lp .busy none n f0 ps x y) ∧ (match e with | .pan _ => False | e => R e M2)) f1 (M1.set k (.lp .busy none n f0 ps x y)) []) f M []
theorem ayield_of {P : Program} {n k : Nat} {x y : Code} {ps : Array Tmp} {f0 : Fr} {M : List Blk} {args : List AV} {R : AE → List Blk → Prop} (hk : M[k]? = some (.lp .ready none n f0 ps x y)) (hnd : (noDefC x && noDefC y) = true) (hps : args.length = ps.size)
    (h : ARound P n k x y ps (updL f0 ps.toList args) f0 M (fun e M2 => match e with
      | .normal => R (.ret (.v (.bool true))) (M2.set k (.lp .ready none n f0 ps x y))
      | e => R (.ret (.v (.bool false))) (M2.set k (.lp .done (jumpOf e) n f0 ps x y)))) : AYield P k M args R := by
  intro B w0 cx vals h1 h2 h3
  simp only [Bool.and_eq_true] at hnd
  obtain ⟨fn, tmps, d, hh, hfr, -⟩ := lp_at h1 (h2 ▸ hk)
  have hsz : vals.toArray.size = ps.size := by have := h3.len; simp; omega
  refine ⟨fn, _, x, y, run_yield hh hsz, ?_⟩
  have hfr' := frel_updL ps.toList args vals f0 tmps hfr h3
  have hz : (ps.zip vals.toArray).foldl (fun tmps (t, a) => tmps.setIfInBounds t a) tmps = (ps.toList.zip vals).foldl (fun tmps (t, a) => tmps.setIfInBounds t a) tmps := by
    rw [← Array.foldl_toList, Array.toList_zip]
  simp only at hz ⊢
  rw [hz]
  refine roundIn_of_wpIn (F := Fo none) (n := 0) trivial ?_
  refine wpIn_mono (h (some (cx.κ k)) (fun _ => hnd.1) B w0 cx cx _ h1 (Le.refl _) h2 hfr' trivial) fun e a1 w1 hp => ?_
  obtain ⟨cx1, ax, f1, ds1, rfl, b1, b2, b3, b4, b5, rfl, rfl, b6, b7⟩ := hp
  cases e <;> try exact b5.elim
  obtain ⟨fn1, tmps1, d1, hh1, -, hput⟩ := lp_at b1 b6
  have hκ : cx1.κ k = cx.κ k := by obtain ⟨_, _, _, e⟩ := b2.fixed k _ (h2 ▸ hk) rfl; exact e
  obtain ⟨hle2, hrel2⟩ := hput .busy none
  have d1n : a1.defers = [] := by
    cases hdd : a1.defers with
    | nil => rfl
    | cons d l => rw [hdd] at b4; exact b4.elim
  rw [hκ] at hh1 hle2 hrel2
  refine ⟨_, run_beginRound hh1 rfl, ?_⟩
  refine wpIn_mono (b7 (some (cx.κ k)) (fun _ => hnd.2) B w0 cx _ a1 hrel2 (b2.trans hle2) rfl (b3.mono hle2) (by rw [d1n]; trivial)) fun e a2 w2 hp => ?_
  obtain ⟨cx2, ax, f2, ds2, rfl, c1, c2, c3, c4, c5, c6, c7, c8⟩ := hp
  obtain ⟨fn2, tmps2, d2, hh2, -, hput2⟩ := lp_at c1 c7
  have hκ2 : cx2.κ k = cx.κ k := by obtain ⟨_, _, _, e⟩ := c2.fixed k _ (h2 ▸ hk) rfl; exact e
  have fin : ∀ (jump : Option Code) (st : LoopState), st = (if jump.isNone then .ready else .done) → R (.ret (.v (.bool jump.isNone))) (cx2.H.set k (.lp st jump n f0 ps x y)) → ∃ v w', (Instr.endRound (cx.κ k) jump).run P cx2.w = .ok v w' ∧ EndRel B w0 cx R (.returned v) w' := by
    intro jump st hst hR
    obtain ⟨hle3, hrel3⟩ := hput2 st jump
    rw [hκ2] at hh2 hle3 hrel3
    refine ⟨_, _, run_endRound jump hh2, cx2.put k _ _, .v (.bool jump.isNone), ?_, hrel3, c2.trans hle3, .v _, hR⟩
    rw [hst]; rfl
  cases e <;> cases ax <;> first | exact c5.elim | exact c8.elim | skip
  · exact fin none .ready rfl c8
  · obtain rfl : _ = _ := c5; exact fin (some (.exit _)) .done rfl c8
  · obtain rfl : _ = _ := c5; exact fin (some (.goto _)) .done rfl c8
  · exact fin (some .ret) .done rfl c8

/-! ### The statement -/
theorem awp_rangeFunc {P : Program} {n : Nat} {g : Operand} {ps : Array Tmp} {x y : Code} {Q : AQ} {f : Fr} {H : List Blk} {ds : List ADef} {it : FuncId} {cap : List AV} (hgo : opOk n g = true) (hg : ev f g = .fn (.func it) [] cap) (hok : okFn P it = true)
    (h : ACalls P it (.yl (H.length + 1) :: cap) (H ++ [.dfr true, .lp .ready none n f ps x y]) (fun e M => ∃ r, e = .ret r ∧ ∃ (st : LoopState) (e : AX), M[H.length + 1]? = some (.lp st (jumpOf e) n f ps x y) ∧ st ≠ .busy ∧ M[H.length]? = some (.dfr true) ∧
      (match e with | .pan _ => False | e => Q e f (M.set (H.length + 1) (.lp .exhausted (jumpOf e) n f ps x y)) (⟨0, [], some H.length⟩ :: ds)))) : AWP P n (.rangeFunc g ps x y) Q f H ds := by
  intro ro hro B w0 cx0 cx a h1 h2 h3 h4 h5
  subst h3
  cases ro with
  | some l => have := hro rfl; simp [noDefC] at this
  | none =>
  have hgr := ev_rep h4 hgo
  rw [hg] at hgr
  generalize hy : a.eval g = gv at hgr
  cases hgr with
  | fn _ _ _ vf vc hnf hrf hnc hrc =>
  obtain rfl : vf = [] := List.eq_nil_of_length_eq_zero hnf.symm
  refine wpIn_rangeFunc fun fn _ => ?_
  have hrel1 := push_lp (push_dfr h1) (h4.mono (le_push cx (.deferred (some [])) (.dfr true) 0)) fn ps x y cx.w.heap.size
  have hle1 := (le_push cx (.deferred (some [])) (.dfr true) 0).trans (le_push (cx.push (.deferred (some [])) (.dfr true) 0) (.loop { state := .ready, pending := none, fn := fn, tmps := a.tmps, params := ps, assign := x, body := y, defers := cx.w.heap.size }) (.lp .ready none n f ps x y) 0)
  generalize hcx1 : (cx.push (.deferred (some [])) (.dfr true) 0).push (.loop { state := .ready, pending := none, fn := fn, tmps := a.tmps, params := ps, assign := x, body := y, defers := cx.w.heap.size }) (.lp .ready none n f ps x y) 0 = cx1 at hrel1 hle1
  have hw1 : cx1.w = (cx.w.alloc (.deferred (some []))).alloc (.loop { state := .ready, pending := none, fn := fn, tmps := a.tmps, params := ps, assign := x, body := y, defers := cx.w.heap.size }) := by rw [← hcx1]; rfl
  have hH1 : cx1.H = cx.H ++ [.dfr true, .lp .ready none n f ps x y] := by rw [← hcx1]; simp [Cx.push]
  have hk1 : cx1.κ (cx.H.length + 1) = cx.w.heap.size + 1 := by rw [← hcx1]; simp [Cx.push]
  have hk0 : cx1.κ cx.H.length = cx.w.heap.size := by rw [← hcx1]; simp [Cx.push, updN]
  have hyl : Rep cx1 false (.yl (cx.H.length + 1)) (.func (.yield (cx.w.heap.size + 1)) #[] #[]) := by
    have := Rep.yl (cx := cx1) (cx.H.length + 1) (.lp .ready none n f ps x y) (by rw [hH1]; simp) rfl
    rwa [hk1] at this
  have hargs : RepL cx1 false (.yl (cx.H.length + 1) :: cap) (.func (.yield (cx.w.heap.size + 1)) #[] #[] :: vc) := ((RepL.mk hnc hrc).mono hle1).cons hyl
  refine ⟨cx.w.heap.size + 1, [{ target := .collected cx.w.heap.size, args := #[] }], cx1.w, { target := .fn (.func it) vc.toArray, args := #[.func (.yield (cx.w.heap.size + 1)) #[] #[]] }, cx1.w, it,
    (Value.func (.yield (cx.w.heap.size + 1)) #[] #[] :: vc).toArray, cx1.w, ?_, ?_, fun _ _ => trivial, ?_, fun hd => (by cases hd), ?_⟩
  · rw [hw1]; exact run_enterLoop_outer _ _ _ _ _
  · simp only [resolve, hy]
    simp [go_sem]
  · unfold okFn at hok
    split at hok
    · rename_i fnn hfn
      simp only [Bool.and_eq_true, Bool.not_eq_true', Option.isSome_iff_exists] at hok
      obtain ⟨⟨bd, hbd⟩, hnm⟩ := hok
      have hbn : fnn.body.isNone = false := by rw [hbd]; rfl
      simp only [Sem.run_bind, Sem.run_pure, Result.andThen_ok, invoke, callFunc, run_program, hfn, hnm, Bool.false_eq_true, if_false, hbn]
      congr 2
      apply Array.ext'
      simp
    · cases hok
  · refine (fo_calls.2 (h B w0 cx1 _ hrel1 hH1 hargs)).mono fun e w' he => ?_
    cases e with
    | outgrown => exact he.elim
    | panicked ch => obtain ⟨_, _, _, _, _, _, _, _, r, hr, _⟩ := he; cases hr
    | returned v =>
      obtain ⟨cx', r, rfl, b1, b2, b3, r', hr, st, ax, c1, c2, c3, c4⟩ := he
      obtain ⟨fn', tmps', d', hh, -, hput⟩ := lp_at b1 c1
      have hκ : cx'.κ (cx.H.length + 1) = cx.w.heap.size + 1 := by
        obtain ⟨_, _, _, e⟩ := b2.fixed (cx.H.length + 1) (.lp .ready none n f ps x y) (by rw [hH1]; simp) rfl
        rw [e, hk1]
      have hκ0 : cx'.κ cx.H.length = cx.w.heap.size := by
        obtain ⟨_, _, _, e⟩ := b2.fixed cx.H.length (.dfr true) (by rw [hH1]; simp) rfl
        rw [e, hk0]
      obtain ⟨hle3, hrel3⟩ := hput .exhausted (jumpOf ax)
      rw [hκ] at hh hle3 hrel3
      refine ⟨jumpOf ax, _, run_endLoop hh c2, ?_⟩
      have hle : Le cx0 (cx'.put (cx.H.length + 1) (cx'.w.putObj (cx.w.heap.size + 1) (.loop { state := .exhausted, pending := jumpOf ax, fn := fn', tmps := tmps', params := ps, assign := x, body := y, defers := d' })) (.lp .exhausted (jumpOf ax) n f ps x y)) := h2.trans (hle1.trans (b2.trans hle3))
      have hlef := hle1.trans (b2.trans hle3)
      have hdr : DRel (cx'.put (cx.H.length + 1) (cx'.w.putObj (cx.w.heap.size + 1) (.loop { state := .exhausted, pending := jumpOf ax, fn := fn', tmps := tmps', params := ps, assign := x, body := y, defers := d' })) (.lp .exhausted (jumpOf ax) n f ps x y)) (⟨0, [], some cx.H.length⟩ :: ds) ([{ target := .collected cx.w.heap.size, args := #[] }] ++ a.defers) :=
        ⟨⟨by show Target.collected _ = Target.collected (cx'.κ cx.H.length); rw [hκ0], .dfr true, by show (cx'.H.set _ _)[_]? = _; rw [List.getElem?_set_ne (by omega)]; exact c3, rfl⟩, h5.mono hlef⟩
      have hfr : FRel (cx'.put (cx.H.length + 1) (cx'.w.putObj (cx.w.heap.size + 1) (.loop { state := .exhausted, pending := jumpOf ax, fn := fn', tmps := tmps', params := ps, assign := x, body := y, defers := d' })) (.lp .exhausted (jumpOf ax) n f ps x y)) n f { a with defers := [{ target := .collected cx.w.heap.size, args := #[] }] ++ a.defers } := h4.mono hlef
      cases ax with
      | normal => exact ⟨_, .normal, f, _, rfl, hrel3, hle, hfr, hdr, trivial, c4⟩
      | exit id => exact wpIn_exit ⟨_, .exit id, f, _, rfl, hrel3, hle, hfr, hdr, rfl, c4⟩
      | goto l => exact wpIn_goto ⟨_, .goto l, f, _, rfl, hrel3, hle, hfr, hdr, rfl, c4⟩
      | ret => exact wpIn_ret ⟨_, .ret, f, _, rfl, hrel3, hle, hfr, hdr, trivial, c4⟩
      | pan x => exact c4.elim
end Go.Mu
namespace Go.Mu

/-! ### Calls of yield -/
def AYieldW (P : Program) (k : Nat) (H : List Blk) (args : List AV) (R : AE → List Blk → Prop) (_ : Wit R) : Prop := AYield P k H args R
@[simp] theorem callVW_yl {P : Program} {H : List Blk} (k : Nat) (args : List AV) (K pan : AV → List Blk → Prop) (w : Wit K) (w' : Wit pan) : callVW P H (.yl k) args K pan w w' = AYieldW P k H args (callK K pan) (wit _) := (rfl)
theorem ayieldW_of {P : Program} {k : Nat} {H : List Blk} {args : List AV} {R R' : AE → List Blk → Prop} {w : Wit R} (h : AYield P k H args R') (hr : ∀ e H', R' e H' → R e H') : AYieldW P k H args R w := h.mono hr

/-! ### A function whose body ranges over functions -/
def leavesM (P : Program) (rs : List ResultVar) (R : AE → List Blk → Prop) (f : Fr) : List ADef → List Blk → Prop
  | [], H => bindO (resAll P H f rs) fun xs => R (.ret (resTup xs)) H
  | d :: ds, H => match d.mark with
    | some k => andV (H[k]? = some (.dfr true)) (leavesM P rs R f ds (H.set k (.dfr false)))
    | none => False
def retQM (P : Program) (rs : List ResultVar) (R : AE → List Blk → Prop) : AQ := fun x f H ds =>
  match x with
  | .normal => leavesM P rs R f ds H
  | .ret => leavesM P rs R f ds H
  | _ => False
theorem leavesM_sound {P : Program} {fn : Func} {n : Nat} {rs : List ResultVar} (hrs : fn.results.toList = rs) (hok : rs.all (resOk n) = true) {R : AE → List Blk → Prop} {f : Fr} : ∀ {ds : List ADef} {H : List Blk} {B : Nat} {w0 : World} {cx0 cx : Cx} {a : Act} {es : List Deferred},
    leavesM P rs R f ds H → HRel B w0 cx → Le cx0 cx → cx.H = H → FRel cx n f a → DRel cx ds es → LeavesInM (Fo none) 0 P fn a.tmps (EndRel B w0 cx0 R) es .returning cx.w
  | [], H, B, w0, cx0, cx, a, es, h, h1, h2, h3, h4, h5 => by
    subst h3
    cases es with
    | cons => exact h5.elim
    | nil =>
      obtain ⟨xs, hx, hR⟩ := h
      obtain ⟨y, hy, hr⟩ := results_rep (P := P) (fn := fn) h1 h4 (by rw [hrs]; exact hok) (by rw [hrs]; exact hx)
      exact ⟨y, hy, cx, _, rfl, h1, h2, hr, hR⟩
  | d :: ds, H, B, w0, cx0, cx, a, es, h, h1, h2, h3, h4, h5 => by
    subst h3
    cases es with
    | nil => exact h5.elim
    | cons e es =>
      obtain ⟨h51, h52⟩ := h5
      cases hm : d.mark with
      | none => simp only [leavesM, hm] at h
      | some k =>
        simp only [leavesM, hm] at h
        rw [hm] at h51
        obtain ⟨ht, -⟩ := h51
        obtain ⟨hk, hl⟩ := h
        obtain ⟨hh, hle, hrel⟩ := dfr_at h1 hk
        exact ⟨by simp, .inl ⟨_, _, ht, run_takeDeferred hh, leavesM_sound (cx := cx.put k _ _) hrs hok hl hrel (h2.trans hle) rfl (h4.mono hle) (h52.mono hle)⟩⟩
theorem acalls_of_vcM {P : Program} {hn : Nat → Bool} {od : Nat → Option OPlan} {fid : FuncId} {fn : Func} {c : Code} {args : List AV} {H : List Blk} {R : AE → List Blk → Prop} (hf : P.funcs[fid]? = some fn) (hb : fn.body = some c)
    (hs : (smallC hn od fn.ntmps c && fn.results.toList.all (resOk fn.ntmps) && decide (args.length ≤ fn.ntmps) && P.follows .mixedOrders) = true)
    (h : vcC P hn od fn.ntmps c (retQM P fn.results.toList R) (frm args 0) H []) : ACalls P fid args H R := by
  simp only [Bool.and_eq_true, decide_eq_true_eq] at hs
  obtain ⟨⟨⟨hs1, hs2⟩, hs3⟩, hm⟩ := hs
  intro B w0 cx vals h1 h2 h3
  refine fo_calls.1 (callsIn_of_wp_marks (F := Fo none) (n := 0) hf hb trivial ?_)
  refine wpIn_mono (vcC_sound hm hs1 h none (fun hs => by cases hs) B w0 cx cx _ h1 (Le.refl _) h2 (frm_rel h3 hs3) trivial) fun e a' w' hp => ?_
  obtain ⟨cx', x, f', ds', rfl, b1, b2, b3, b4, b5, b6⟩ := hp
  cases e <;> cases x <;> first | exact b5.elim | exact b6.elim | skip
  · exact leavesM_sound rfl hs2 b6 b1 b2 rfl b3 b4
  · exact leavesM_sound rfl hs2 b6 b1 b2 rfl b3 b4
def leavesMW (P : Program) (rs : List ResultVar) (R : AE → List Blk → Prop) (ds : List ADef) (f : Fr) (H : List Blk) (_ : Wit (rs, R, f)) : Prop := leavesM P rs R f ds H
@[simp ↓] theorem QW_retMN (P : Program) (rs : List ResultVar) (R : AE → List Blk → Prop) (f : Fr) (H : List Blk) (ds : List ADef) (w : Wit (retQM P rs R, AX.normal, f, H, ds)) : QW (retQM P rs R) .normal f H ds w = leavesMW P rs R ds f H (wit _) := (rfl)
@[simp ↓] theorem QW_retMR (P : Program) (rs : List ResultVar) (R : AE → List Blk → Prop) (f : Fr) (H : List Blk) (ds : List ADef) (w : Wit (retQM P rs R, AX.ret, f, H, ds)) : QW (retQM P rs R) .ret f H ds w = leavesMW P rs R ds f H (wit _) := (rfl)
@[simp ↓] theorem QW_retMP (P : Program) (rs : List ResultVar) (R : AE → List Blk → Prop) (x : AV) (f : Fr) (H : List Blk) (ds : List ADef) (w : Wit (retQM P rs R, AX.pan x, f, H, ds)) : QW (retQM P rs R) (.pan x) f H ds w = False := (rfl)
@[simp ↓] theorem leavesMW_nil (P : Program) (rs : List ResultVar) (R : AE → List Blk → Prop) (f : Fr) (H : List Blk) (w : Wit (rs, R, f)) : leavesMW P rs R [] f H w = bindOW (resW P H rs f (wit _)) (fun xs => bindVW (resTup xs) (fun x => R (.ret x) H) (wit _)) (wit _) := (rfl)
@[simp ↓] theorem leavesMW_cons (P : Program) (rs : List ResultVar) (R : AE → List Blk → Prop) (g k : Nat) (l : List AV) (ds : List ADef) (f : Fr) (H : List Blk) (w : Wit (rs, R, f)) : leavesMW P rs R (⟨g, l, some k⟩ :: ds) f H w = andVW (H[k]? = some (.dfr true)) (leavesMW P rs R ds f (H.set k (.dfr false)) (wit _)) (wit _) := (rfl)

/-! ### Iterators -/
/-- An iterator that gives these elements, one behind the other, whatever is done with them: memory is a first part, which the rounds turn, and what lies behind. -/
def ASeq (P : Program) (it : FuncId) (cap : List AV) (xs : List (List AV)) (base : Nat) (inv : List Blk → Prop) : Prop :=
  ∀ (k : Nat) (J : Nat → List Blk → Prop) (Jx : List Blk → Prop), (∀ i A, J i A → A.length = base ∧ inv A) →
    (∀ i A B x, xs[i]? = some x → J i A → AYield P k (A ++ B) x (fun e M => ∃ A' C, M = A' ++ B ++ C ∧ ((e = .ret (.v (.bool true)) ∧ J (i + 1) A') ∨ (e = .ret (.v (.bool false)) ∧ Jx A')))) →
    ∀ A, J 0 A → ACalls P it (.yl k :: cap) A (fun e M => ∃ r A' C, e = .ret r ∧ M = A' ++ C ∧ (J xs.length A' ∨ Jx A'))
/-- What is asked of the assignment at a round's beginning. -/
def roundQ1 (K : Fr → List Blk → Prop) : AQ := fun ex f M ds => ex = .normal ∧ ds = [] ∧ K f M
/-- What is asked at a round's end. -/
def roundQ2 (K : AX → List Blk → Prop) : AQ := fun ex f M ds => ds = [] ∧ (match ex with | .pan _ => False | ex => K ex M)
@[simp ↓] theorem QW_round1 (K : Fr → List Blk → Prop) (f : Fr) (H : List Blk) (w : Wit (roundQ1 K, AX.normal, f, H, ([] : List ADef))) : QW (roundQ1 K) .normal f H [] w = K f H := by simp [QW, roundQ1]
@[simp ↓] theorem QW_round2N (K : AX → List Blk → Prop) (f : Fr) (H : List Blk) (w : Wit (roundQ2 K, AX.normal, f, H, ([] : List ADef))) : QW (roundQ2 K) .normal f H [] w = K .normal H := by simp [QW, roundQ2]
@[simp ↓] theorem QW_round2R (K : AX → List Blk → Prop) (f : Fr) (H : List Blk) (w : Wit (roundQ2 K, AX.ret, f, H, ([] : List ADef))) : QW (roundQ2 K) .ret f H [] w = K .ret H := by simp [QW, roundQ2]
@[simp ↓] theorem QW_round2E (K : AX → List Blk → Prop) (i : Nat) (f : Fr) (H : List Blk) (w : Wit (roundQ2 K, AX.exit i, f, H, ([] : List ADef))) : QW (roundQ2 K) (.exit i) f H [] w = K (.exit i) H := by simp [QW, roundQ2]
@[simp ↓] theorem QW_round2G (K : AX → List Blk → Prop) (i : Nat) (f : Fr) (H : List Blk) (w : Wit (roundQ2 K, AX.goto i, f, H, ([] : List ADef))) : QW (roundQ2 K) (.goto i) f H [] w = K (.goto i) H := by simp [QW, roundQ2]
@[simp ↓] theorem QW_round2P (K : AX → List Blk → Prop) (x : AV) (f : Fr) (H : List Blk) (ds : List ADef) (w : Wit (roundQ2 K, AX.pan x, f, H, ds)) : QW (roundQ2 K) (.pan x) f H ds w = False := by simp [QW, roundQ2]
/-- Where a round is left so: the loop's memory. -/
def RoundEnd (J : List Blk → Prop) (Jx : AX → List Blk → Prop) (B : List Blk) (ex : AX) (M : List Blk) : Prop := ∃ A C, M = A ++ (B ++ C) ∧ (match ex with | .normal => J A | ex => Jx ex A)
theorem roundEnd_of {J : List Blk → Prop} {Jx : AX → List Blk → Prop} {B : List Blk} {ex : AX} (A C : List Blk) {M : List Blk} (hM : M = A ++ (B ++ C)) (h : match ex with | .normal => J A | ex => Jx ex A) : RoundEnd J Jx B ex M := ⟨A, C, hM, h⟩
theorem awpW_of_vc {P : Program} {hn : Nat → Bool} {od : Nat → Option OPlan} {n : Nat} {c : Code} {Q : AQ} {f : Fr} {H : List Blk} {ds : List ADef} {w : Wit (n, c, Q, f, H, ds)} (hs : (P.follows .mixedOrders && smallC hn od n c) = true) (h : vcCW P hn od n c Q f H ds (wit _)) : AWPW P n c Q f H ds w := by
  simp only [Bool.and_eq_true] at hs
  exact vcC_sound hs.1 hs.2 h
/-- A range over an iterator that gives these elements: 'J i': what memory is ahead of round i. -/
theorem awp_range {P : Program} {n : Nat} {g : Operand} {ps : Array Tmp} {x y : Code} {Q : AQ} {f : Fr} {H : List Blk} {ds : List ADef} {it : FuncId} {cap : List AV} {w : Wit (n, Code.rangeFunc g ps x y, Q, f, H, ds)}
    (xs : List (List AV)) (inv : List Blk → Prop) (J : Nat → List Blk → Prop) (Jx : AX → List Blk → Prop)
    (hgo : (opOk n g && noDefC x && noDefC y && okFn P it) = true) (hg : ev f g = .fn (.func it) [] cap) (hps : ∀ e ∈ xs, e.length = ps.size)
    (hseq : ASeq P it cap xs (H.length + 2) (fun A => ∃ A0 b, A = A0 ++ b ∧ A0.length = H.length ∧ inv A0)) (h0 : J 0 H) (hJ : ∀ i A, J i A → A.length = H.length ∧ inv A) (hJx : ∀ e A, Jx e A → A.length = H.length)
    (round : ∀ i A B e, xs[i]? = some e → J i A → AWPW P n x (roundQ1 fun f1 M1 => M1 = A ++ B ∧ ∀ B', AWPW P n y (roundQ2 (RoundEnd (J (i + 1)) Jx B')) f1 (A ++ B') [] (wit _)) (updL f ps.toList e) (A ++ B) [] (wit _))
    (fin : ∀ A C, J xs.length A → QW Q .normal f (A ++ .dfr true :: C) (⟨0, [], some H.length⟩ :: ds) (wit _))
    (finx : ∀ ex A C, Jx ex A → ex ≠ .normal → (∀ z, ex ≠ .pan z) → QW Q ex f (A ++ .dfr true :: C) (⟨0, [], some H.length⟩ :: ds) (wit _)) : AWPW P n (.rangeFunc g ps x y) Q f H ds w := by
  simp only [Bool.and_eq_true] at hgo
  refine awp_rangeFunc hgo.1.1.1 hg hgo.2 ?_
  have base := hseq (H.length + 1) (fun i M => ∃ A, M = A ++ [.dfr true, .lp .ready none n f ps x y] ∧ J i A) (fun M => ∃ ex A, M = A ++ [.dfr true, .lp .done (jumpOf ex) n f ps x y] ∧ Jx ex A ∧ ex ≠ .normal ∧ ∀ z, ex ≠ .pan z) ?_ ?_
    (H ++ [.dfr true, .lp .ready none n f ps x y]) ⟨H, rfl, h0⟩
  · refine base.mono fun e M he => ?_
    obtain ⟨r, A', C, rfl, rfl, ⟨A, rfl, hA⟩ | ⟨ex, A, rfl, hA, hne, hnp⟩⟩ := he
    · have hl := (hJ _ _ hA).1
      refine ⟨r, rfl, .ready, .normal, ?_, by simp, ?_, ?_⟩
      · rw [← hl]; simp [jumpOf]
      · rw [← hl]; simp
      · have := fin A (.lp .exhausted none n f ps x y :: C) hA
        simp only
        rw [← hl] at this ⊢
        simpa [jumpOf, QW] using this
    · have hl := hJx _ _ hA
      refine ⟨r, rfl, .done, ex, ?_, by simp, ?_, ?_⟩
      · rw [← hl]; simp
      · rw [← hl]; simp
      · have := finx ex A (.lp .exhausted (jumpOf ex) n f ps x y :: C) hA hne hnp
        rw [← hl] at this ⊢
        cases ex with
        | normal => exact absurd rfl hne
        | pan z => exact absurd rfl (hnp z)
        | _ => simpa [QW] using this
  · rintro i M ⟨A, rfl, hA⟩
    have := hJ i A hA
    exact ⟨by simp [this.1], A, _, rfl, this.1, this.2⟩
  · rintro i M B e he ⟨A, rfl, hA⟩
    have hl := (hJ i A hA).1
    have hke : e.length = ps.size := hps e (List.mem_of_getElem? he)
    have hget : ∀ (A C : List Blk) (z u : Blk), A.length = H.length → (A ++ z :: u :: C)[H.length + 1]? = some u := by
      intro A C z u hh; rw [← hh]; simp
    have hset : ∀ (A C : List Blk) (z u u' : Blk), A.length = H.length → (A ++ z :: u :: C).set (H.length + 1) u' = A ++ z :: u' :: C := by
      intro A C z u u' hh; rw [← hh]; simp
    have hM : A ++ [.dfr true, .lp .ready none n f ps x y] ++ B = A ++ .dfr true :: .lp .ready none n f ps x y :: B := by simp
    rw [hM]
    refine ayield_of (hget _ _ _ _ hl) (by simp [hgo.1.1.2, hgo.1.2]) hke ?_
    refine AWP.mono (round i A (.dfr true :: .lp .ready none n f ps x y :: B) e he hA) fun ex f1 M1 ds1 h1 => ?_
    obtain ⟨rfl, rfl, rfl, h2⟩ := h1
    refine ⟨rfl, rfl, hget _ _ _ _ hl, ?_⟩
    rw [hset _ _ _ _ _ hl]
    refine AWP.mono (h2 (.dfr true :: .lp .busy none n f ps x y :: B)) fun ex f2 M2 ds2 h3 => ?_
    obtain ⟨rfl, h3⟩ := h3
    have hx0 : (∀ z, ex ≠ .pan z) ∧ RoundEnd (J (i + 1)) Jx (.dfr true :: .lp .busy none n f ps x y :: B) ex M2 := by
      cases ex with
      | pan z => exact h3.elim
      | _ => exact ⟨by simp, h3⟩
    obtain ⟨hnp, A', C, rfl, hx⟩ := hx0
    have hM2 : A' ++ ((.dfr true :: .lp .busy none n f ps x y :: B) ++ C) = A' ++ .dfr true :: .lp .busy none n f ps x y :: (B ++ C) := by simp
    rw [hM2]
    have hl' : A'.length = H.length := by
      cases ex with
      | normal => exact (hJ _ _ hx).1
      | _ => exact hJx _ _ hx
    refine ⟨rfl, hget _ _ _ _ hl', ?_⟩
    cases ex with
    | normal => exact ⟨A' ++ [.dfr true, .lp .ready none n f ps x y], C, by rw [hset _ _ _ _ _ hl']; simp, .inl ⟨rfl, A', rfl, hx⟩⟩
    | pan z => exact absurd rfl (hnp z)
    | ret => exact ⟨A' ++ [.dfr true, .lp .done (jumpOf .ret) n f ps x y], C, by rw [hset _ _ _ _ _ hl']; simp, .inr ⟨rfl, _, A', rfl, hx, by simp, by simp⟩⟩
    | exit id => exact ⟨A' ++ [.dfr true, .lp .done (jumpOf (.exit id)) n f ps x y], C, by rw [hset _ _ _ _ _ hl']; simp, .inr ⟨rfl, _, A', rfl, hx, by simp, by simp⟩⟩
    | goto l => exact ⟨A' ++ [.dfr true, .lp .done (jumpOf (.goto l)) n f ps x y], C, by rw [hset _ _ _ _ _ hl']; simp, .inr ⟨rfl, _, A', rfl, hx, by simp, by simp⟩⟩
/-- Rows of the call's own are given away ahead of a call. -/
theorem acalls_giveO {P : Program} {fid : FuncId} {H L : List Blk} {R : AE → List Blk → Prop} {f : AV → List AV} (hu : underH H.length H = true) (j sz : Nat) (t : TypeId) (es : List (List AV)) (hj : L[j]? = some (ownB t sz es)) (hz : es.flatten.all AV.frzB = true)
    (hf : ∀ x, frzL (H.length + j) sz es (f x) = f (x.frz (H.length + j) sz es))
    (h : ∀ x L', Gv sz es x → (∀ i b, i ≠ j → L[i]? = some b → b.under H.length = true → L'[i]? = some b) → ACalls P fid (f x) (H ++ L') R) : ACalls P fid (f (ownS (H.length + j) es)) (H ++ L) R := by
  by_cases hes : es = []
  · subst hes
    rw [ownS_nil]
    exact h _ L (.inl ⟨rfl, rfl⟩) (fun i b _ hb _ => hb)
  · rw [ownB, if_neg hes] at hj
    refine acalls_give (H.length + j) sz t es (by rw [List.getElem?_append_right (by omega)]; simpa using hj) hz ?_
    rw [hf, frz_own _ _ _ hes, frzH_app j hu]
    refine h _ _ (.inr rfl) fun i b hi hb hbu => ?_
    rw [List.getElem?_set_ne (fun e => hi e.symm), List.getElem?_map, hb]
    simp only [Option.map_some, frzB_id (Nat.le_add_right _ _) b hbu]
end Go.Mu
namespace Go.Proofs
open Go.Mu
def partsT : List (Int × Int) := [(1, 3), (2, 5), (3, 9), (4, 10), (5, 19), (6, 21), (7, 33), (8, 37), (9, 1), (10, 1), (11, 3), (12, 3), (13, 5), (14, 65), (15, 3), (16, 67), (17, 128), (18, 192), (19, 128), (20, 0)]
theorem parts_ok (H : List Blk) : ACalls Try.prog 79 [] H (fun e H' => e = .ret (.hm H.length) ∧ H' = H ++ [.map (tabM partsT)]) := by
  refine acalls_of_vc (hn := fun _ => false) (od := fun _ => none) Try.func79 rfl (by kernel_rfl) ?_
  simp -dsimp [mset_nil, mset_cons]
  rfl
/-- Is this bit set? -/
def bitP (p m : Int) : Bool := IntKind.i64.wrap (((BitVec.ofInt 64 p) &&& (BitVec.ofInt 64 m)).toNat) != 0
def stripA (i : Amd) (p : Int) : Amd :=
  ⟨i.op, if bitP p 16 then i.bin else 0, if bitP p 32 then i.shift else 0, if bitP p 64 then i.cond else 0, if bitP p 1 then i.dst else 0, if bitP p 2 then i.src else 0, if bitP p 4 then i.imm else 0,
    if bitP p 8 then i.base else 0, if bitP p 8 then i.index else 0, if bitP p 8 then i.hasBase else false, if bitP p 8 then i.hasIndex else false, if bitP p 8 then i.disp else 0, if bitP p 128 then i.label else 0⟩
def isReg (r : Int) : Bool := decide (0 ≤ r) && decide (r ≤ 15)
theorem reg_is_ok (r : Int) (H : List Blk) : ACalls Try.prog 102 [I r] H (fun e H' => e = .ret (Bo (isReg r)) ∧ H' = H) := by
  refine acalls_of_vc (hn := fun _ => false) (od := fun _ => none) Try.func102 rfl (by kernel_rfl) ?_
  simp -dsimp
  repeat' ((with_reducible first | refine And.intro ?_ ?_ | refine guardVW_introTD (fun _ => ?_) (fun _ => ?_) | refine guardVW_introFD (fun _ => ?_) (fun _ => ?_) | refine condVW_introD (fun _ => ?_) (fun _ => ?_) | refine guardVW_introTE (fun _ => ?_) (fun _ _ _ => ?_) | refine guardVW_introFE (fun _ => ?_) (fun _ _ _ => ?_) | refine condVW_introE (fun _ => ?_) (fun _ _ _ => ?_) | refine guardVW_introTNE (fun _ _ _ => ?_) (fun _ => ?_) | refine guardVW_introFNE (fun _ _ _ => ?_) (fun _ => ?_) | refine condVW_introNE (fun _ _ _ => ?_) (fun _ => ?_) | refine guardVW_introTB (fun _ => ?_) (fun _ => ?_) | refine guardVW_introFB (fun _ => ?_) (fun _ => ?_) | refine condVW_introB (fun _ => ?_) (fun _ => ?_) | refine guardVW_introT (fun _ => ?_) (fun _ => ?_) | refine guardVW_introF (fun _ => ?_) (fun _ => ?_) | refine condVW_intro (fun _ => ?_) (fun _ => ?_)) <;> simp -dsimp [*])
  all_goals simp [isReg, *]
def mayAddr (base index : Int) (hb hi : Bool) (disp : Int) : Bool :=
  isReg base && (hb || base == 0) && (isReg index && (hi || index == 0) && !(hi && index == 4)) && short (IntKind.u64.wrap disp)
theorem mayAddr_ok (base index : Int) (hb hi : Bool) (disp : Int) (H : List Blk) : ACalls Try.prog 103 [.agg [I base, I index, Bo hb, Bo hi, I disp]] H (fun e H' => e = .ret (Bo (mayAddr base index hb hi disp)) ∧ H' = H) := by
  refine acalls_tidy (acalls_of_vc (hn := fun _ => false) (od := fun _ => none) Try.func103 rfl (by kernel_rfl) ?_)
  have c := reg_is_ok
  have s := short_ok
  simp -dsimp
  cases hb <;> cases hi
  all_goals repeat' ((with_reducible first | refine And.intro ?_ ?_ | refine guardVW_introTD (fun _ => ?_) (fun _ => ?_) | refine guardVW_introFD (fun _ => ?_) (fun _ => ?_) | refine condVW_introD (fun _ => ?_) (fun _ => ?_) | refine guardVW_introTE (fun _ => ?_) (fun _ _ _ => ?_) | refine guardVW_introFE (fun _ => ?_) (fun _ _ _ => ?_) | refine condVW_introE (fun _ => ?_) (fun _ _ _ => ?_) | refine guardVW_introTNE (fun _ _ _ => ?_) (fun _ => ?_) | refine guardVW_introFNE (fun _ _ _ => ?_) (fun _ => ?_) | refine condVW_introNE (fun _ _ _ => ?_) (fun _ => ?_) | refine guardVW_introTB (fun _ => ?_) (fun _ => ?_) | refine guardVW_introFB (fun _ => ?_) (fun _ => ?_) | refine condVW_introB (fun _ => ?_) (fun _ => ?_) | refine guardVW_introT (fun _ => ?_) (fun _ => ?_) | refine guardVW_introF (fun _ => ?_) (fun _ => ?_) | refine condVW_intro (fun _ => ?_) (fun _ => ?_) | refine acallsW_det (c _ _) ?_ | refine callDW_intro (c _ _) ?_ | refine acallsW_det (s _ _) ?_ | refine callDW_intro (s _ _) ?_) <;> simp -dsimp [*])
  all_goals refine tidy_same rfl ⟨?_, rfl⟩
  all_goals first | (simp [mayAddr, *]; done) | (simp_all [mayAddr]; done)
theorem strip_at (i : Amd) (p : Int) (hp : p ∈ partsT.map (·.2)) (H : List Blk) : ACalls Try.prog 101 [.agg i.cells, I p] H (fun e H' => e = .ret (.agg (stripA i p).cells) ∧ H' = H) := by
  refine acalls_tidy (acalls_of_vc (hn := fun _ => false) (od := fun _ => none) Try.func101 rfl (by kernel_rfl) ?_)
  simp only [partsT, List.map_cons, List.map_nil, List.mem_cons, List.not_mem_nil, or_false] at hp
  rcases hp with rfl | rfl | rfl | rfl | rfl | rfl | rfl | rfl | rfl | rfl | rfl | rfl | rfl | rfl | rfl | rfl | rfl | rfl | rfl | rfl
  all_goals simp -dsimp [IntKind.bits, IntKind.wrap]
  all_goals exact tidy_same rfl ⟨by simp [stripA, bitP, IntKind.wrap, IntKind.bits, IntKind.signed], rfl⟩
def mayOne (i : Amd) : Bool :=
  match partsT.lookup i.op with
  | none => false
  | some p => decide (i = stripA i p) && isReg i.dst && isReg i.src && mayAddr i.base i.index i.hasBase i.hasIndex i.disp &&
    !(bitP p 16 && (decide (i.bin < 1) || decide (8 < i.bin)) || bitP p 32 && (decide (i.shift < 1) || decide (5 < i.shift))) &&
    !(decide (i.cond < 0) || decide (15 < i.cond) || decide (i.label < 0) || decide (1048576 < i.label)) &&
    (if i.op = 6 ∨ i.op = 13 then short i.imm else (i.op != 8 || decide (i.imm < 64)))
theorem lookup_mem {k v : Int} : ∀ {l : List (Int × Int)}, l.lookup k = some v → (k, v) ∈ l
  | [], h => by simp at h
  | (a, b) :: l, h => by
    rw [List.lookup_cons] at h
    by_cases hk : k = a
    · subst hk; simp at h; simp [h]
    · have : (k == a) = false := by simp [hk]
      rw [this] at h; exact List.mem_cons_of_mem _ (lookup_mem h)
theorem mayOne_ok (i : Amd) (k : Nat) (H : List Blk) (hk : H[k]? = some (.map (tabM partsT))) : ACalls Try.prog 80 [.agg i.cells, .hm k] H (fun e H' => e = .ret (Bo (mayOne i)) ∧ H' = H) := by
  refine acalls_tidy (acalls_of_vc (hn := fun _ => false) (od := fun _ => none) Try.func80 rfl (by kernel_rfl) ?_)
  have hm : ∀ X, mapEs (H ++ X) (.hm k) = some (tabM partsT) := by
    intro X; simp only [mapEs]; rw [List.getElem?_append_left (lt_of_get hk), hk]
  have hf := tab_find i.op partsT
  have leaf : Hid (∀ (L : List Blk) (c : Bool), c = mayOne i → Tidy H (fun e H' => e = AE.ret (Bo (mayOne i)) ∧ H' = H) (AE.ret (AV.v (Value.bool c))) (H ++ L)) := ⟨fun L c hb => tidy_same rfl ⟨by rw [hb], rfl⟩⟩
  have c := reg_is_ok
  have s := short_ok
  have ma := mayAddr_ok
  have hnq := fun (x y : Amd) => amd_nq x y
  simp only [Amd.cells] at hnq
  cases hl : partsT.lookup i.op with
  | none =>
    rw [hl] at hf
    simp -dsimp [hm, hf]
    exact leaf.out _ _ (by simp [mayOne, hl])
  | some p =>
    rw [hl] at hf
    have hp : p ∈ partsT.map (·.2) := List.mem_map.2 ⟨_, lookup_mem hl, rfl⟩
    have st := fun H => strip_at i p hp H
    simp only [Amd.cells] at st
    obtain ⟨b16, h16⟩ : ∃ b, b = bitP p 16 := ⟨_, rfl⟩
    obtain ⟨b32, h32⟩ : ∃ b, b = bitP p 32 := ⟨_, rfl⟩
    have e16 : (IntKind.i64.wrap (((p % 2 ^ IntKind.i64.bits).toNat &&& 16 % 2 ^ IntKind.i64.bits : Nat) : Int) != 0) = b16 := by rw [h16]; simp [bitP, IntKind.bits]
    have e32 : (IntKind.i64.wrap (((p % 2 ^ IntKind.i64.bits).toNat &&& 32 % 2 ^ IntKind.i64.bits : Nat) : Int) != 0) = b32 := by rw [h32]; simp [bitP, IntKind.bits]
    obtain ⟨d, hd⟩ : ∃ d, d = decide (i = stripA i p) := ⟨_, rfl⟩
    replace hnq := hnq i (stripA i p)
    rw [← hd] at hnq
    simp -dsimp [hm, hf]
    refine callDW_intro (st _) ?_
    clear st hf hm
    cases d
    · simp -dsimp [hnq, -Try.nq69]
      refine leaf.out _ _ ?_
      simp [mayOne, hl, ← hd]
    replace hd := Hid.mk hd
    replace h16 := Hid.mk h16
    replace h32 := Hid.mk h32
    simp -dsimp [hnq, -Try.nq69]
    repeat' ((with_reducible first | refine And.intro ?_ ?_ | refine guardVW_introTD (fun _ => ?_) (fun _ => ?_) | refine guardVW_introFD (fun _ => ?_) (fun _ => ?_) | refine condVW_introD (fun _ => ?_) (fun _ => ?_) | refine guardVW_introTE (fun _ => ?_) (fun _ _ _ => ?_) | refine guardVW_introFE (fun _ => ?_) (fun _ _ _ => ?_) | refine condVW_introE (fun _ => ?_) (fun _ _ _ => ?_) | refine guardVW_introTNE (fun _ _ _ => ?_) (fun _ => ?_) | refine guardVW_introFNE (fun _ _ _ => ?_) (fun _ => ?_) | refine condVW_introNE (fun _ _ _ => ?_) (fun _ => ?_) | refine guardVW_introTB (fun _ => ?_) (fun _ => ?_) | refine guardVW_introFB (fun _ => ?_) (fun _ => ?_) | refine condVW_introB (fun _ => ?_) (fun _ => ?_) | refine guardVW_introT (fun _ => ?_) (fun _ => ?_) | refine guardVW_introF (fun _ => ?_) (fun _ => ?_) | refine condVW_intro (fun _ => ?_) (fun _ => ?_) | refine acallsW_det (c _ _) ?_ | refine callDW_intro (c _ _) ?_ | refine acallsW_det (ma _ _ _ _ _ _) ?_ | refine callDW_intro (ma _ _ _ _ _ _) ?_ | refine acallsW_det (s _ _) ?_ | refine callDW_intro (s _ _) ?_) <;> simp -dsimp [*, e16, e32, -Try.nq69])
    all_goals refine leaf.out _ _ ?_
    all_goals simp only [mayOne, hl, ← h16.out, ← h32.out, ← hd.out]
    all_goals clear leaf c s ma hnq e16 e32 h16 h32 hl hp hd
    all_goals first | (simp [*]; done) | (simp [*]; omega)
end Go.Proofs
namespace Go.Proofs
open Go.Mu
/-- Where labels stand. -/
def labsA : List Amd → Nat → List (Int × Int)
  | [], _ => []
  | a :: l, i => if a.op = 19 then (a.label, (i : Int)) :: labsA l (i + 1) else labsA l (i + 1)
theorem labels_ok (l : List Amd) (H : List Blk) : ACalls Try.prog 78 [Amd.sl l] H (fun e H' => e = .ret (.fn (.func 100) [] [.bp H.length 0]) ∧ H' = H ++ [.box 51 [Amd.sl l]]) := by
  refine acalls_of_vc (hn := fun _ => false) (od := fun _ => none) Try.func78 rfl (by kernel_rfl) ?_
  simp -dsimp
theorem labels_seq (l : List Amd) (hl : l.length ≤ 2^40) (kb base : Nat) (hkb : kb < base) : ASeq Try.prog 100 [.bp kb 0] ((labsA l 0).map fun p => [I p.1, I p.2]) base (fun A => A[kb]? = some (.box 51 [Amd.sl l])) := by
  intro k J Jx hJ hy A h0
  refine acalls_of_vc (hn := fun _ => false) (od := fun _ => none) Try.func100 rfl (by kernel_rfl) ?_
  have g0 : A[kb]? = some (.box 51 [Amd.sl l]) := (hJ 0 A h0).2
  simp -dsimp [g0]
  refine loop_rule (hn := fun _ => false) (od := fun _ => none) (fun (i : Nat) f H' => (∃ j A' B, H' = A' ++ B ∧ J j A' ∧ j ≤ (labsA l 0).length ∧ (labsA l 0).drop j = labsA (l.drop i) i) ∧ f 0 = .yl k ∧ f 5 = Amd.sl l ∧ f 6 = I l.length ∧ f 7 = I i ∧ i ≤ l.length) (fun i => l.length - i) (by kernel_rfl) 0 (by refine ⟨⟨0, A, [], by simp, h0, Nat.zero_le _, rfl⟩, ?_⟩; simp) ?_
  rintro i f H' ⟨⟨j, A', B, rfl, hj, hjle, hdr⟩, f0, f5, f6, f7, hi⟩
  simp -dsimp [f0, f5, f6, f7]
  refine condVW_introD (fun hlt => ?_) (fun hlt => ?_)
  · have hg : l[i]? = some l[i] := List.getElem?_eq_getElem hlt
    rw [drop_cons hlt, labsA] at hdr
    simp -dsimp [f0, f5, f6, f7, hg]
    refine guardVW_introTE (fun hk => ?_) (fun hk _ _ => ?_)
    · rw [if_pos hk] at hdr
      have hxj : ((labsA l 0).map fun p => [I p.1, I p.2])[j]? = some [I l[i].label, I i] := by
        rw [List.getElem?_map]
        have : (labsA l 0)[j]? = some (l[i].label, (i : Int)) := by
          have := List.getElem?_drop (xs := labsA l 0) (i := j) (j := 0)
          rw [hdr] at this; simpa using this.symm
        rw [this]; rfl
      simp -dsimp [f0, f5, f6, f7, hg, hk]
      refine ayieldW_of (hy j A' _ _ hxj hj) ?_
      rintro e M ⟨A2, C, rfl, ⟨rfl, h1⟩ | ⟨rfl, h2⟩⟩
      · have hjlt : j < (labsA l 0).length := by simpa using (List.getElem?_eq_some_iff.1 hxj).1
        simp -dsimp [f0, f5, f6, f7, hk]
        refine ⟨i + 1, by omega, ⟨j + 1, A2, ⟨_, rfl⟩, h1, by omega, ?_⟩, wrapS (by omega), by omega⟩
        rw [← List.drop_drop, hdr]; rfl
      · simp -dsimp [f0, f5, f6, f7, hk]
        exact ⟨A2, ⟨_, rfl⟩, .inr h2⟩
    · rw [if_neg hk] at hdr
      have hkb : (l[i].op == 19) = false := by simp [hk]
      simp -dsimp [f0, f5, f6, f7, hg, hkb]
      exact ⟨i + 1, by omega, ⟨j, A', ⟨_, rfl⟩, hj, hjle, hdr⟩, wrapS (by omega), by omega⟩
  · simp -dsimp [f0, f5, f6, f7]
    rw [drop_end hlt, labsA] at hdr
    have hjl : (labsA l 0).length ≤ j := by simpa using hdr
    obtain rfl : j = (labsA l 0).length := by omega
    exact ⟨A', ⟨_, rfl⟩, .inl hj⟩
end Go.Proofs
namespace Go.Proofs
open Go.Mu
def keysA (l : List Amd) : List Int := (labsA l 0).map (·.1)
def goodA (l : List Amd) (a : Amd) : Bool := mayOne a && (!(a.op == 17 || a.op == 18) || decide (a.label ∈ keysA l))
def mayA (l : List Amd) : Bool := decide (l.length ≤ 1048576) && decide (keysA l).Nodup && l.all (goodA l)
theorem lookup_none {k : Int} : ∀ {t : List (Int × Int)}, t.lookup k = none ↔ k ∉ t.map (·.1)
  | [] => by simp
  | (a, b) :: t => by
    rw [List.lookup_cons]
    by_cases h : k = a
    · subst h; simp
    · have : (k == a) = false := by simp [h]
      rw [this]; simp [lookup_none (t := t), h]
/-- What open's memory is. -/
def opM (H : List Blk) (l : List Amd) (b0 b1 : AV) (t : List (Int × Int)) : List Blk :=
  H ++ [.box 116 [b0], .box 4 [b1], .map (tabM t), .box 155 [Amd.sl l, .hm (H.length + 2)], .box 116 [.bp (H.length + 3) 0], .box 51 [Amd.sl l]]
theorem opM_len {H : List Blk} {l : List Amd} {b0 b1 : AV} {t : List (Int × Int)} : (opM H l b0 b1 t).length = H.length + 6 := by simp [opM]
theorem open_ok (l : List Amd) (hl : l.length ≤ 2^40) (H : List Blk) : ACalls Try.prog 51 [Amd.sl l] H (fun e H' => ∃ t C, e = .ret (.tup [if mayA l = true then .bp (H.length + 3) 0 else .v (.pointer none), Bo (mayA l)]) ∧
    H' = H ++ ([.box 116 [if mayA l = true then .bp (H.length + 3) 0 else .v (.pointer none)], .box 4 [Bo (mayA l)], .map (tabM t), .box 155 [Amd.sl l, .hm (H.length + 2)]] ++ C) ∧ (mayA l = true → t = labsA l 0)) := by
  refine acalls_of_vcM (hn := fun _ => false) (od := fun _ => none) Try.func51 rfl (by kernel_rfl) ?_
  have lb := fun H => labels_ok l H
  simp -dsimp
  refine condVW_introD (fun h0 => ?_) (fun h0 => ?_)
  · simp -dsimp
    have hm : mayA l = false := by simp [mayA]; intro h; omega
    simp [hm, tabM]
  have hl2 : l.length ≤ 1048576 := by omega
  simp -dsimp
  refine acallsW_of (lb _) (fun e H' hq => ?_)
  obtain ⟨rfl, rfl⟩ := hq
  simp -dsimp
  have hM : H ++ [Blk.box 116 [.v (.pointer none)], .box 4 [Bo false], .map [], .box 155 [Amd.sl l, .hm (H.length + 2)], .box 116 [.bp (H.length + 3) 0], .box 51 [Amd.sl l]] = opM H l (.v (.pointer none)) (Bo false) [] := rfl
  rw [hM]
  have keys : ∀ i, ((labsA l 0).take i).map (·.1) = (keysA l).take i := by intro i; rw [keysA, List.map_take]
  refine awp_range ((labsA l 0).map fun p => [I p.1, I p.2]) (fun A => A[H.length + 5]? = some (.box 51 [Amd.sl l])) (fun i A => A = opM H l (.v (.pointer none)) (Bo false) ((labsA l 0).take i) ∧ ((keysA l).take i).Nodup)
    (fun ex A => ex = .ret ∧ ∃ t, A = opM H l (.v (.pointer none)) (Bo false) t ∧ ¬ (keysA l).Nodup) (by kernel_rfl) rfl (by simp only [List.mem_map]; rintro e ⟨p, _, rfl⟩; rfl) ?_ ⟨rfl, by simp⟩ ?_ ?_ ?_ ?_ ?_
  · rw [opM_len]
    intro k J Jx hJ hy A h0
    refine labels_seq l hl (H.length + 5) (H.length + 6 + 2) (by omega) k J Jx (fun i A h => ?_) hy A h0
    obtain ⟨h1, A0, b, rfl, h2, h3⟩ := hJ i A h
    exact ⟨h1, get_app_old h3 b⟩
  · rintro i A ⟨rfl, -⟩
    exact ⟨by simp [opM], by simp [opM]⟩
  · rintro ex A ⟨-, t, rfl, -⟩
    simp [opM]
  · rintro i A B e he ⟨rfl, hnd⟩
    rw [List.getElem?_map] at he
    obtain ⟨⟨lab, at_⟩, hp, rfl⟩ := Option.map_eq_some_iff.1 he
    have hi : i < (labsA l 0).length := (List.getElem?_eq_some_iff.1 hp).1
    have hkl : (keysA l).length = (labsA l 0).length := by simp [keysA]
    have hki : (keysA l)[i]? = some lab := by rw [keysA, List.getElem?_map, hp]; rfl
    refine awpW_of_vc (hn := fun _ => false) (od := fun _ => none) (by kernel_rfl) ?_
    simp -dsimp
    intro B'
    refine awpW_of_vc (hn := fun _ => false) (od := fun _ => none) (by kernel_rfl) ?_
    have hf := tab_find lab ((labsA l 0).take i)
    have hs := tab_set lab at_ ((labsA l 0).take i)
    have hgd := getDI (List.lookup lab ((labsA l 0).take i))
    have hsm := isSomeI (List.lookup lab ((labsA l 0).take i))
    simp -dsimp [opM, hf, hs, hgd, hsm]
    have hkt : ((keysA l).take i).length = i := by simp; omega
    cases hlk : List.lookup lab ((labsA l 0).take i) with
    | some v =>
      have hnn : ¬ (keysA l).Nodup := by
        have hmem : lab ∈ (keysA l).take i := by
          rw [← keys]
          exact Classical.byContradiction fun h => by rw [lookup_none.2 h] at hlk; cases hlk
        intro hnd'
        have h2 : ((keysA l).take (i + 1)).Nodup := hnd'.sublist (List.take_sublist _ _)
        rw [List.take_succ_eq_append_getElem (by omega), List.nodup_append] at h2
        refine h2.2.2 lab hmem (keysA l)[i] (by simp) ?_
        rw [← Option.some.injEq, ← List.getElem?_eq_getElem, hki]
      simp -dsimp [hlk]
      exact roundEnd_of (opM H l (.v (.pointer none)) (Bo false) ((labsA l 0).take i)) [] (by simp [opM]) (by simpa using ⟨⟨_, rfl⟩, hnn⟩)
    | none =>
      have hnm := lookup_none.1 hlk
      rw [keys] at hnm
      have hput : putT ((labsA l 0).take i) lab at_ = (labsA l 0).take (i + 1) := by
        rw [putT_new _ _ _ (fun p hp e => lookup_none.1 hlk (by rw [← e]; exact List.mem_map.2 ⟨p, hp, rfl⟩)), List.take_succ_eq_append_getElem hi]
        congr 2
        rw [← Option.some.injEq, ← List.getElem?_eq_getElem, hp]
      have hnd2 : ((keysA l).take (i + 1)).Nodup := by
        rw [List.take_succ_eq_append_getElem (by omega), List.nodup_append]
        refine ⟨hnd, by simp, fun a ha b hb => ?_⟩
        rw [List.mem_singleton] at hb
        subst hb
        intro e
        subst e
        apply hnm
        have : (keysA l)[i] = lab := by rw [← Option.some.injEq, ← List.getElem?_eq_getElem, hki]
        rw [← this]; exact ha
      simp -dsimp [hlk, hs, hput]
      exact roundEnd_of (opM H l (.v (.pointer none)) (Bo false) ((labsA l 0).take (i + 1))) [] (by simp [opM]) ⟨rfl, hnd2⟩
  · rintro A C ⟨rfl, hnd⟩
    have pt := fun H => parts_ok H
    have e1 : (labsA l 0).take ((labsA l 0).map fun p => [I p.1, I p.2]).length = labsA l 0 := by rw [List.length_map, List.take_length]
    have hnd' : (keysA l).Nodup := by
      have : ((labsA l 0).map fun p => [I p.1, I p.2]).length = (keysA l).length := by simp [keysA]
      rw [this, List.take_length] at hnd; exact hnd
    rw [e1]
    obtain ⟨N, hN⟩ : ∃ N, N = opM H l (.v (.pointer none)) (Bo false) (labsA l 0) ++ .dfr true :: C := ⟨_, rfl⟩
    obtain ⟨K, hK⟩ : ∃ K, K = N.length := ⟨_, rfl⟩
    have q2 : ∀ X, mapEs (N ++ X) (.hm (H.length + 2)) = some (tabM (labsA l 0)) := by intro X; rw [hN]; simp [mapEs, opM]
    have q3 : ∀ X, (N ++ X)[H.length + 3]? = some (.box 155 [Amd.sl l, .hm (H.length + 2)]) := by intro X; rw [hN]; simp [opM]
    have q4 : ∀ X, (N ++ X)[H.length + 4]? = some (.box 116 [.bp (H.length + 3) 0]) := by intro X; rw [hN]; simp [opM]
    rw [← hN]
    simp -dsimp
    refine acallsW_of (pt _) (fun e H' hq => ?_)
    obtain ⟨rfl, rfl⟩ := hq
    simp -dsimp
    obtain ⟨N2, hN2⟩ : ∃ N2, N2 = N ++ [.map (tabM partsT)] := ⟨_, rfl⟩
    have r2 : ∀ X, mapEs (N2 ++ X) (.hm (H.length + 2)) = some (tabM (labsA l 0)) := by intro X; rw [hN2, List.append_assoc]; exact q2 _
    have r3 : ∀ X, (N2 ++ X)[H.length + 3]? = some (.box 155 [Amd.sl l, .hm (H.length + 2)]) := by intro X; rw [hN2, List.append_assoc]; exact q3 _
    have r4 : ∀ X, (N2 ++ X)[H.length + 4]? = some (.box 116 [.bp (H.length + 3) 0]) := by intro X; rw [hN2, List.append_assoc]; exact q4 _
    have rp : ∀ X, (N2 ++ X)[K]? = some (.map (tabM partsT)) := by intro X; rw [hN2, hK]; simp
    rw [← hN2, ← hK]
    refine loop_rule (hn := fun _ => false) (od := fun _ => none) (fun (i : Nat) f H' => (∃ X, H' = N2 ++ X) ∧ f 0 = Amd.sl l ∧ f 2 = .bp H.length 0 ∧ f 3 = .bp (H.length + 1) 0 ∧ f 4 = .bp (H.length + 4) 0 ∧ f 9 = .hm K ∧ f 42 = Amd.sl l ∧ f 43 = I l.length ∧ f 44 = I i ∧ i ≤ l.length ∧
      (l.drop i).all (goodA l) = l.all (goodA l)) (fun i => l.length - i) (by kernel_rfl) 0 (by refine ⟨⟨[], by simp⟩, ?_⟩; simp) ?_
    rintro i f H' ⟨⟨X, rfl⟩, f0, f2, f3, f4, f9, f42, f43, f44, hi, hall⟩
    simp -dsimp [f0, f2, f3, f4, f9, f42, f43, f44]
    refine condVW_introD (fun hlt => ?_) (fun hlt => ?_)
    · have hg : l[i]? = some l[i] := List.getElem?_eq_getElem hlt
      have mo := fun X => mayOne_ok l[i] K (N2 ++ X) (rp X)
      have hf := tab_find l[i].label (labsA l 0)
      have hgd := getDI (List.lookup l[i].label (labsA l 0))
      have hsm := isSomeI (List.lookup l[i].label (labsA l 0))
      simp only [Amd.cells] at mo
      rw [drop_cons hlt, List.all_cons] at hall
      simp -dsimp [f0, f2, f3, f4, f9, f42, f43, f44, hg, r2, r3, r4, hf, hgd, hsm]
      refine acallsW_det (mo _) ?_
      have fail : Hid (goodA l l[i] = false → mayA l = false) := ⟨fun h => by rw [h, Bool.false_and] at hall; simp [mayA, ← hall]⟩
      have next : Hid (goodA l l[i] = true → ∃ y, l.length - y < l.length - i ∧ IntKind.i64.wrap ((i : Int) + 1) = (y : Int) ∧ y ≤ l.length ∧ (l.drop y).all (goodA l) = l.all (goodA l)) := ⟨fun h => by
        rw [h, Bool.true_and] at hall
        exact ⟨i + 1, by omega, wrapS (by omega), by omega, hall⟩⟩
      have hlk : (List.lookup l[i].label (labsA l 0)).isSome = decide (l[i].label ∈ keysA l) := by
        rw [keysA, Bool.eq_iff_iff, decide_eq_true_eq]
        cases hq : List.lookup l[i].label (labsA l 0) with
        | none => simpa using lookup_none.1 hq
        | some v => simp; exact Classical.byContradiction fun h => by rw [lookup_none.2 (by simpa using h)] at hq; cases hq
      replace hall := Hid.mk hall
      replace hN := Hid.mk hN
      replace hN2 := Hid.mk hN2
      replace hK := Hid.mk hK
      replace hnd' := Hid.mk hnd'
      replace e1 := Hid.mk e1
      clear mo hf hgd hsm q2 q3 q4 r2 r3 r4 rp pt lb hnd
      generalize hmo : mayOne l[i] = m at *
      generalize hle : decide (l[i].label ∈ keysA l) = le at *
      cases m <;> cases le
      all_goals simp -dsimp [hlk]
      all_goals repeat' ((with_reducible first | refine And.intro ?_ ?_ | refine guardVW_introTD (fun _ => ?_) (fun _ => ?_) | refine guardVW_introFD (fun _ => ?_) (fun _ => ?_) | refine condVW_introD (fun _ => ?_) (fun _ => ?_) | refine guardVW_introTE (fun _ => ?_) (fun _ _ _ => ?_) | refine guardVW_introFE (fun _ => ?_) (fun _ _ _ => ?_) | refine condVW_introE (fun _ => ?_) (fun _ _ _ => ?_) | refine guardVW_introTNE (fun _ _ _ => ?_) (fun _ => ?_) | refine guardVW_introFNE (fun _ _ _ => ?_) (fun _ => ?_) | refine condVW_introNE (fun _ _ _ => ?_) (fun _ => ?_) | refine guardVW_introTB (fun _ => ?_) (fun _ => ?_) | refine guardVW_introFB (fun _ => ?_) (fun _ => ?_) | refine condVW_introB (fun _ => ?_) (fun _ => ?_) | refine guardVW_introT (fun _ => ?_) (fun _ => ?_) | refine guardVW_introF (fun _ => ?_) (fun _ => ?_) | refine condVW_intro (fun _ => ?_) (fun _ => ?_)) <;> simp -dsimp [*])
      all_goals first
        | (refine next.out ?_; simp [goodA, hmo, hle, *]; done)
        | (have hm := fail.out (by simp [goodA, hmo, hle, *])
           rw [hN2.out, hN.out]
           simp -dsimp [f2, f3, opM, hm]
           exact ⟨_, rfl⟩)
        | trace_state
    · rw [drop_end hlt] at hall
      have hmt : mayA l = true := by simp [mayA, hl2, hnd', ← hall]
      rw [hN2, hN]
      simp -dsimp [f0, f2, f3, f4, f9, f42, f43, f44, opM, hmt]
  · rintro ex A C ⟨rfl, t, rfl, hnd⟩ - -
    have hm : mayA l = false := by simp [mayA, hnd]
    simp -dsimp [opM]
    exact ⟨hm, t, ⟨hm, rfl⟩, by simp [hm]⟩
end Go.Proofs
namespace Go.Proofs
open Go.Mu
theorem indexR_ok (l : List Int) (x : Int) (H : List Blk) (hl : l.length ≤ 2^40) : ACalls Try.prog 81 [Int.sl l, I x] H (fun e H' => e = .ret (I (idxP (x == ·) l 0)) ∧ H' = H) := by
  refine acalls_of_vc (hn := fun _ => false) (od := fun _ => none) Try.func81 rfl (by kernel_rfl) ?_
  simp -dsimp
  refine loop_rule (hn := fun _ => false) (od := fun _ => none) (fun (i : Nat) f H' => H' = H ∧ f 0 = Int.sl l ∧ f 1 = I x ∧ f 7 = I l.length ∧ f 8 = I i ∧ i ≤ l.length ∧ idxP (x == ·) (l.drop i) i = idxP (x == ·) l 0) (fun i => l.length - i) (by kernel_rfl) 0 (by simp) ?_
  rintro i f H' ⟨rfl, h0, h1, h7, h8, hi, ht⟩
  simp -dsimp [h0, h1, h7, h8]
  refine condVW_introD (fun hlt => ?_) (fun hlt => ?_)
  · simp -dsimp [h0, h1, h7, h8, List.getElem?_eq_getElem, hlt]
    rw [drop_cons hlt] at ht
    simp only [idxP] at ht
    repeat' ((with_reducible first | refine And.intro ?_ ?_ | refine guardVW_introTD (fun _ => ?_) (fun _ => ?_) | refine guardVW_introFD (fun _ => ?_) (fun _ => ?_) | refine condVW_introD (fun _ => ?_) (fun _ => ?_) | refine guardVW_introTE (fun _ => ?_) (fun _ _ _ => ?_) | refine guardVW_introFE (fun _ => ?_) (fun _ _ _ => ?_) | refine condVW_introE (fun _ => ?_) (fun _ _ _ => ?_) | refine guardVW_introTNE (fun _ _ _ => ?_) (fun _ => ?_) | refine guardVW_introFNE (fun _ _ _ => ?_) (fun _ => ?_) | refine condVW_introNE (fun _ _ _ => ?_) (fun _ => ?_) | refine guardVW_introTB (fun _ => ?_) (fun _ => ?_) | refine guardVW_introFB (fun _ => ?_) (fun _ => ?_) | refine condVW_introB (fun _ => ?_) (fun _ => ?_) | refine guardVW_introT (fun _ => ?_) (fun _ => ?_) | refine guardVW_introF (fun _ => ?_) (fun _ => ?_) | refine condVW_intro (fun _ => ?_) (fun _ => ?_)) <;> simp -dsimp [*])
    · rename_i h; subst h; rw [← ht]; simp
    · rw [if_neg (by simp; omega)] at ht
      exact ⟨i + 1, by omega, wrapS (by omega), by omega, ht⟩
  · simp -dsimp [h0, h1, h7, h8]
    rw [drop_end hlt] at ht
    exact ht
theorem containsR_ok (l : List Int) (x : Int) (H : List Blk) (hl : l.length ≤ 2^40) : ACalls Try.prog 53 [Int.sl l, I x] H (fun e H' => e = .ret (Bo (decide (x ∈ l))) ∧ H' = H) := by
  refine acalls_of_vc (hn := fun _ => false) (od := fun _ => none) Try.func53 rfl (by kernel_rfl) ?_
  simp -dsimp
  refine acallsW_det (indexR_ok _ _ _ hl) ?_
  simp -dsimp
  have := idxP_any (x == ·) l 0 (by omega)
  rw [Bool.eq_iff_iff] at this
  simpa [List.any_eq] using this
theorem indexFuncR_ok {g : FuncId} {cap : List AV} (p : Int → Bool) (l : List Int) (H : List Blk) (hl : l.length ≤ 2^40) (hg : okFn Try.prog g = true) (hp : ∀ x ∈ l, ACalls Try.prog g (I x :: cap) H (fun e H' => e = .ret (Bo (p x)) ∧ H' = H)) :
    ACalls Try.prog 82 [Int.sl l, .fn (.func g) [] cap] H (fun e H' => e = .ret (I (idxP p l 0)) ∧ H' = H) := by
  refine acalls_of_vc (hn := fun _ => false) (od := fun _ => none) Try.func82 rfl (by kernel_rfl) ?_
  simp -dsimp
  refine loop_rule (hn := fun _ => false) (od := fun _ => none) (fun (i : Nat) f H' => H' = H ∧ f 0 = Int.sl l ∧ f 1 = .fn (.func g) [] cap ∧ f 7 = I l.length ∧ f 8 = I i ∧ i ≤ l.length ∧ idxP p (l.drop i) i = idxP p l 0) (fun i => l.length - i) (by kernel_rfl) 0 (by simp) ?_
  rintro i f H' ⟨rfl, h0, h1, h7, h8, hi, ht⟩
  simp -dsimp [h0, h1, h7, h8]
  refine condVW_introD (fun hlt => ?_) (fun hlt => ?_)
  · simp -dsimp [h0, h1, h7, h8, List.getElem?_eq_getElem, hlt, hg]
    rw [drop_cons hlt] at ht
    simp only [idxP] at ht
    refine acallsW_det (hp _ (List.getElem_mem hlt)) ?_
    simp -dsimp [h0, h1, h7, h8]
    repeat' ((with_reducible first | refine And.intro ?_ ?_ | refine guardVW_introTD (fun _ => ?_) (fun _ => ?_) | refine guardVW_introFD (fun _ => ?_) (fun _ => ?_) | refine condVW_introD (fun _ => ?_) (fun _ => ?_) | refine guardVW_introTE (fun _ => ?_) (fun _ _ _ => ?_) | refine guardVW_introFE (fun _ => ?_) (fun _ _ _ => ?_) | refine condVW_introE (fun _ => ?_) (fun _ _ _ => ?_) | refine guardVW_introTNE (fun _ _ _ => ?_) (fun _ => ?_) | refine guardVW_introFNE (fun _ _ _ => ?_) (fun _ => ?_) | refine condVW_introNE (fun _ _ _ => ?_) (fun _ => ?_) | refine guardVW_introTB (fun _ => ?_) (fun _ => ?_) | refine guardVW_introFB (fun _ => ?_) (fun _ => ?_) | refine condVW_introB (fun _ => ?_) (fun _ => ?_) | refine guardVW_introT (fun _ => ?_) (fun _ => ?_) | refine guardVW_introF (fun _ => ?_) (fun _ => ?_) | refine condVW_intro (fun _ => ?_) (fun _ => ?_)) <;> simp -dsimp [*])
    · rw [← ht]; simp [*]
    · rw [if_neg (by simp [*])] at ht
      exact ⟨i + 1, by omega, wrapS (by omega), by omega, ht⟩
  · simp -dsimp [h0, h1, h7, h8]
    rw [drop_end hlt] at ht
    exact ht
theorem containsFuncR_ok {g : FuncId} {cap : List AV} (p : Int → Bool) (l : List Int) (H : List Blk) (hl : l.length ≤ 2^40) (hg : okFn Try.prog g = true) (hp : ∀ x ∈ l, ACalls Try.prog g (I x :: cap) H (fun e H' => e = .ret (Bo (p x)) ∧ H' = H)) :
    ACalls Try.prog 54 [Int.sl l, .fn (.func g) [] cap] H (fun e H' => e = .ret (Bo (l.any p)) ∧ H' = H) := by
  refine acalls_of_vc (hn := fun _ => false) (od := fun _ => none) Try.func54 rfl (by kernel_rfl) ?_
  simp -dsimp
  refine acallsW_det (indexFuncR_ok p _ _ hl hg hp) ?_
  simp -dsimp
  rw [idxP_any _ _ _ (by omega)]
def oddR (r : Int) : Bool := decide (r < 0) || decide (15 < r) || r == 0 || r == 1 || r == 2 || r == 4
theorem odd_ok (r : Int) (H : List Blk) : ACalls Try.prog 52 [I r] H (fun e H' => e = .ret (Bo (oddR r)) ∧ H' = H) := by
  refine acalls_of_vc (hn := fun _ => false) (od := fun _ => none) Try.func52 rfl (by kernel_rfl) ?_
  simp -dsimp
  repeat' ((with_reducible first | refine And.intro ?_ ?_ | refine guardVW_introTD (fun _ => ?_) (fun _ => ?_) | refine guardVW_introFD (fun _ => ?_) (fun _ => ?_) | refine condVW_introD (fun _ => ?_) (fun _ => ?_) | refine guardVW_introTE (fun _ => ?_) (fun _ _ _ => ?_) | refine guardVW_introFE (fun _ => ?_) (fun _ _ _ => ?_) | refine condVW_introE (fun _ => ?_) (fun _ _ _ => ?_) | refine guardVW_introTNE (fun _ _ _ => ?_) (fun _ => ?_) | refine guardVW_introFNE (fun _ _ _ => ?_) (fun _ => ?_) | refine condVW_introNE (fun _ _ _ => ?_) (fun _ => ?_) | refine guardVW_introTB (fun _ => ?_) (fun _ => ?_) | refine guardVW_introFB (fun _ => ?_) (fun _ => ?_) | refine condVW_introB (fun _ => ?_) (fun _ => ?_) | refine guardVW_introT (fun _ => ?_) (fun _ => ?_) | refine guardVW_introF (fun _ => ?_) (fun _ => ?_) | refine condVW_intro (fun _ => ?_) (fun _ => ?_)) <;> simp -dsimp [*])
  all_goals simp [oddR, *]
theorem mayCode_ok (l : List Amd) (hl : l.length ≤ 2^40) (H : List Blk) : ACalls Try.prog 25 [Amd.sl l] H (fun e H' => e = .ret (Bo (mayA l)) ∧ H' = H) := by
  refine acalls_tidy (acalls_of_vc (hn := fun _ => false) (od := fun _ => none) Try.func25 rfl (by kernel_rfl) ?_)
  simp -dsimp
  refine acallsW_of (open_ok l hl _) (fun e H' hq => ?_)
  obtain ⟨t, C, rfl, rfl, -⟩ := hq
  simp -dsimp
  exact tidy_same rfl ⟨rfl, rfl⟩
/-- Is none of these there twice? -/
def apartB : List Int → List Int → Bool
  | _, [] => true
  | s, x :: l => !decide (x ∈ s) && apartB (s ++ [x]) l
def frameOk (n : Int) : Bool := decide (0 ≤ n) && decide (n ≤ 8192) && (n.tmod 16 == 0)
def mayAsm (a : Asm) : Bool := apartB [] a.params && mayA a.code && !a.params.any oddR && !a.rets.any oddR && frameOk a.frame
theorem mayAsm_ok (a : Asm) (h1 : a.code.length ≤ 2^40) (h2 : a.params.length ≤ 2^40) (h3 : a.rets.length ≤ 2^40) (H : List Blk) : ACalls Try.prog 26 [.agg a.cells] H (fun e H' => e = .ret (Bo (mayAsm a)) ∧ H' = H) := by
  refine acalls_tidy (acalls_of_vc (hn := fun _ => false) (od := fun _ => none) Try.func26 rfl (by kernel_rfl) ?_)
  have leaf : Hid (∀ (L : List Blk) (c : Bool), c = mayAsm a → Tidy H (fun e H' => e = AE.ret (Bo (mayAsm a)) ∧ H' = H) (AE.ret (AV.v (Value.bool c))) (H ++ L)) := ⟨fun L c hb => tidy_same rfl ⟨by rw [hb], rfl⟩⟩
  simp -dsimp
  refine loop_rule (hn := fun _ => false) (od := fun _ => none) (fun (i : Nat) f H' => H' = H ++ [Blk.box 59 [Amd.sl a.code, Int.sl a.params, Int.sl a.rets, I a.frame]] ∧ f 1 = .bp H.length 0 ∧ f 3 = .fn (.func 52) [] [] ∧ f 7 = Int.sl a.params ∧ f 8 = I a.params.length ∧ f 9 = I i ∧ i ≤ a.params.length ∧
    apartB (a.params.take i) (a.params.drop i) = apartB [] a.params) (fun i => a.params.length - i) (by kernel_rfl) 0 (by simp) ?_
  rintro i f H' ⟨rfl, f1, f3, f7, f8, f9, hi, ht⟩
  simp -dsimp [f1, f3, f7, f8, f9]
  refine condVW_introD (fun hlt => ?_) (fun hlt => ?_)
  · have hg : a.params[i]? = some a.params[i] := List.getElem?_eq_getElem hlt
    have c := fun H => containsR_ok (a.params.take i) a.params[i] H (by simp; omega)
    rw [drop_cons hlt, apartB, ← List.take_succ_eq_append_getElem hlt] at ht
    simp only [Int.sl, List.map_take] at c
    simp -dsimp [f1, f3, f7, f8, f9, hg, hi]
    repeat' ((with_reducible first | refine And.intro ?_ ?_ | refine guardVW_introTD (fun _ => ?_) (fun _ => ?_) | refine guardVW_introFD (fun _ => ?_) (fun _ => ?_) | refine condVW_introD (fun _ => ?_) (fun _ => ?_) | refine guardVW_introTE (fun _ => ?_) (fun _ _ _ => ?_) | refine guardVW_introFE (fun _ => ?_) (fun _ _ _ => ?_) | refine condVW_introE (fun _ => ?_) (fun _ _ _ => ?_) | refine guardVW_introTNE (fun _ _ _ => ?_) (fun _ => ?_) | refine guardVW_introFNE (fun _ _ _ => ?_) (fun _ => ?_) | refine condVW_introNE (fun _ _ _ => ?_) (fun _ => ?_) | refine guardVW_introTB (fun _ => ?_) (fun _ => ?_) | refine guardVW_introFB (fun _ => ?_) (fun _ => ?_) | refine condVW_introB (fun _ => ?_) (fun _ => ?_) | refine guardVW_introT (fun _ => ?_) (fun _ => ?_) | refine guardVW_introF (fun _ => ?_) (fun _ => ?_) | refine condVW_intro (fun _ => ?_) (fun _ => ?_) | refine acallsW_det (c _) ?_ | refine callDW_intro (c _) ?_) <;> simp -dsimp [*])
    · refine leaf.out _ _ ?_
      rename_i hm
      simp only [hm, decide_true, Bool.not_true, Bool.false_and] at ht
      simp [mayAsm, ← ht]
    · rename_i hm
      simp only [hm, decide_false, Bool.not_false, Bool.true_and] at ht
      exact ⟨i + 1, by omega, wrapS (by omega), by omega, ht⟩
  · rw [drop_end hlt, apartB] at ht
    have htt : Hid (apartB [] a.params = true) := ⟨ht.symm⟩
    clear ht
    have mc := fun H => mayCode_ok a.code h1 H
    have cp := fun H => containsFuncR_ok (g := 52) (cap := []) oddR a.params H h2 (by kernel_rfl) (fun x _ => odd_ok x H)
    have cr := fun H => containsFuncR_ok (g := 52) (cap := []) oddR a.rets H h3 (by kernel_rfl) (fun x _ => odd_ok x H)
    simp -dsimp [f1, f3, f7, f8, f9]
    repeat' ((with_reducible first | refine And.intro ?_ ?_ | refine guardVW_introTD (fun _ => ?_) (fun _ => ?_) | refine guardVW_introFD (fun _ => ?_) (fun _ => ?_) | refine condVW_introD (fun _ => ?_) (fun _ => ?_) | refine guardVW_introTE (fun _ => ?_) (fun _ _ _ => ?_) | refine guardVW_introFE (fun _ => ?_) (fun _ _ _ => ?_) | refine condVW_introE (fun _ => ?_) (fun _ _ _ => ?_) | refine guardVW_introTNE (fun _ _ _ => ?_) (fun _ => ?_) | refine guardVW_introFNE (fun _ _ _ => ?_) (fun _ => ?_) | refine condVW_introNE (fun _ _ _ => ?_) (fun _ => ?_) | refine guardVW_introTB (fun _ => ?_) (fun _ => ?_) | refine guardVW_introFB (fun _ => ?_) (fun _ => ?_) | refine condVW_introB (fun _ => ?_) (fun _ => ?_) | refine guardVW_introT (fun _ => ?_) (fun _ => ?_) | refine guardVW_introF (fun _ => ?_) (fun _ => ?_) | refine condVW_intro (fun _ => ?_) (fun _ => ?_) | refine acallsW_det (mc _) ?_ | refine callDW_intro (mc _) ?_ | refine acallsW_det (cp _) ?_ | refine callDW_intro (cp _) ?_ | refine acallsW_det (cr _) ?_ | refine callDW_intro (cr _) ?_) <;> simp -dsimp [*])
    all_goals refine leaf.out _ _ ?_
    all_goals simp [mayAsm, frameOk, htt.out, *]
end Go.Proofs
namespace Go.Proofs
open Go.Mu
theorem regOf_cases (n : Int) : regOf n ∈ ([0, 3, 5, 6, 7, 8, 9, 10, 11, 12, 13, 14] : List Int) := by
  unfold regOf
  by_cases h : n.toNat < regL.length
  · rw [List.getD_eq_getElem?_getD, List.getElem?_eq_getElem h]
    have := List.getElem_mem h
    simp only [Option.getD_some]
    exact List.mem_cons_of_mem _ this
  · rw [List.getD_eq_getElem?_getD, List.getElem?_eq_none (by omega)]; simp
theorem regOf_is (n : Int) : isReg (regOf n) = true := by
  have := regOf_cases n
  simp only [List.mem_cons, List.not_mem_nil, or_false] at this
  simp only [isReg, Bool.and_eq_true, decide_eq_true_eq]
  omega
theorem regOf_odd (n : Int) (h : R11 n) : oddR (regOf n) = false := by
  obtain ⟨k, rfl⟩ : ∃ k : Nat, n = k := ⟨n.toNat, by have := h.1; omega⟩
  have : ∀ k : Nat, k < 11 → oddR (regOf k) = false := by decide
  exact this k (by have := h.2; omega)
theorem regOf_inj (n m : Int) (h : R11 n) (h' : R11 m) (he : regOf n = regOf m) : n = m := by
  obtain ⟨k, rfl⟩ : ∃ k : Nat, n = k := ⟨n.toNat, by have := h.1; omega⟩
  obtain ⟨j, rfl⟩ : ∃ j : Nat, m = j := ⟨m.toNat, by have := h'.1; omega⟩
  have : ∀ k : Nat, k < 11 → ∀ j : Nat, j < 11 → regOf k = regOf j → k = j := by decide
  have := this k (by have := h.2; omega) j (by have := h'.2; omega) he
  omega
theorem apart_regs (vars : Int) (hv : vars ≤ 11) : ∀ (l s : List Int), (∀ v ∈ s, R11 v) → paramsOk vars s l = true → apartB (s.map regOf) (l.map regOf) = true
  | [], _, _, _ => rfl
  | x :: l, s, hs, h => by
    simp only [paramsOk, Bool.and_eq_true, Bool.not_eq_true', decide_eq_false_iff_not] at h
    have hx : R11 x := by have := h.1.1; simp [isV] at this; constructor <;> omega
    simp only [List.map_cons, apartB, Bool.and_eq_true, Bool.not_eq_true', decide_eq_false_iff_not]
    refine ⟨fun hm => ?_, ?_⟩
    · obtain ⟨v, hv1, hv2⟩ := List.mem_map.1 hm
      exact h.1.2 (regOf_inj v x (hs v hv1) hx hv2 ▸ hv1)
    · have := apart_regs vars hv l (s ++ [x]) (by intro v hv; rcases List.mem_append.1 hv with hv | hv; exact hs v hv; rw [List.mem_singleton.1 hv]; exact hx) h.2
      simpa using this
/-- The labels that stand, in their order. -/
def keysOf : List Amd → List Int
  | [] => []
  | a :: l => if a.op = 19 then a.label :: keysOf l else keysOf l
theorem keysOf_app (a b : List Amd) : keysOf (a ++ b) = keysOf a ++ keysOf b := by
  induction a with
  | nil => rfl
  | cons x a ih => simp only [List.cons_append, keysOf, ih]; split <;> rfl
theorem labsA_keys (l : List Amd) (i : Nat) : (labsA l i).map (·.1) = keysOf l := by
  induction l generalizing i with
  | nil => rfl
  | cons a l ih => simp only [labsA, keysOf]; split <;> simp [ih]
theorem keysOf_none {a : List Amd} (h : ∀ x ∈ a, x.op ≠ 19) : keysOf a = [] := by
  induction a with
  | nil => rfl
  | cons x a ih => rw [keysOf, if_neg (h x (by simp)), ih (fun y hy => h y (by simp [hy]))]
theorem keys_lines (code : List Line) (h : (labs code).Nodup) : ∀ (rest pre : List Line), code = pre ++ rest →
    keysOf (rest.flatMap fun x => lineL x (labNo code x.label)) = (List.range' (labs pre).length (labs rest).length).map (fun n : Nat => (n : Int)) := by
  intro rest
  induction rest with
  | nil => intro pre hc; simp [keysOf, labs]
  | cons x rest ih =>
    intro pre hc
    have hn := ih (pre ++ [x]) (by rw [hc]; simp)
    rw [List.flatMap_cons, keysOf_app, hn, labs_app]
    by_cases hk : x.kind = 2
    · have hl : lineL x (labNo code x.label) = [⟨19, 0, 0, 0, 0, 0, 0, 0, 0, false, false, 0, labNo code x.label⟩] := by simp [lineL, hk]
      have ha : labNo code x.label = ((labs pre).length : Int) := by rw [hc] at h ⊢; exact labNo_at h hk
      rw [hl, ha]
      simp [keysOf, labs, hk, List.range'_succ]
    · rw [keysOf_none (lineL_op hk _)]
      simp [labs, hk]
theorem keys_make {l : Linear} (h : l.ok = true) : keysA (makeA l).code = (List.range (labs l.code).length).map (fun n : Nat => (n : Int)) := by
  unfold keysA makeA
  simp only
  rw [labsA_keys, keysOf_app, keys_lines l.code (ok_nodup h) l.code [] rfl, List.range_eq_range']
  rw [keysOf_none (a := if endsL l.code = true then [] else [retA]) (by intro x hx; split at hx <;> simp at hx; subst hx; simp)]
  simp [labs]
theorem labNo_in {c : List Line} {v : Int} (h : (labs c).Nodup) (hv : v ∈ labs c) : 0 ≤ labNo c v ∧ labNo c v < (labs c).length := by
  obtain ⟨pre, x, rest, rfl, hk, rfl⟩ : ∃ pre x rest, c = pre ++ x :: rest ∧ x.kind = 2 ∧ x.label = v := by
    clear h
    induction c with
    | nil => simp [labs] at hv
    | cons y c ih =>
      rw [labs] at hv
      split at hv
      · rename_i hk
        rcases List.mem_cons.1 hv with rfl | hv
        · exact ⟨[], y, c, rfl, hk, rfl⟩
        · obtain ⟨pre, x, rest, rfl, h1, h2⟩ := ih hv; exact ⟨y :: pre, x, rest, rfl, h1, h2⟩
      · obtain ⟨pre, x, rest, rfl, h1, h2⟩ := ih hv; exact ⟨y :: pre, x, rest, rfl, h1, h2⟩
  rw [labNo_at h hk, labs_app, labs, if_pos hk]
  simp; omega
theorem labNo_le (c : List Line) (v : Int) (h : (labs c).Nodup) : 0 ≤ labNo c v ∧ labNo c v ≤ c.length := by
  have hl : (labs c).length ≤ c.length := by
    clear h
    induction c with
    | nil => simp [labs]
    | cons x c ih => rw [labs]; split <;> simp <;> omega
  by_cases hv : v ∈ labs c
  · have := labNo_in h hv; omega
  · have : (labTab c []).lookup v = none := by
      rw [labTab_eq c [] (by simpa using h)]
      refine lookup_none.2 ?_
      rw [List.nil_append, numd_keys]; exact hv
    unfold labNo; rw [this]; simp
theorem ok_stands {l : Linear} (h : l.ok = true) : ∀ x ∈ l.code, (x.kind = 3 ∨ x.kind = 4) → x.label ∈ labs l.code := by
  have hh := ok_head h
  have hv : 0 ≤ l.vars ∧ l.vars ≤ 16384 := by simp only [headOk, Bool.and_eq_true, decide_eq_true_eq] at hh; omega
  have hn := h
  simp only [Linear.ok, Bool.and_eq_true] at h
  have h2 := h.2
  cases hs : linesSeen l.vars l.code [] with
  | none => rw [hs] at h2; cases h2
  | some s =>
    have := seen_labs l.vars hv.1 hv.2 l.code [] s hs (by simp)
    rw [List.nil_append] at this
    rw [hs] at h2
    simp only [Bool.not_eq_true', List.any_eq_false, jumps] at h2
    intro x hx hk
    have := h2 x hx
    rw [← (seen_labs l.vars hv.1 hv.2 l.code [] s hs (by simp)).1.trans (List.nil_append _)]
    exact Classical.byContradiction fun hc => this (by simp [hk, hc])
end Go.Proofs
namespace Go.Proofs
open Go.Mu
theorem short0 : short 0 = true := by decide
theorem isReg0 : isReg 0 = true := by decide
theorem isReg1 : isReg 1 = true := by decide
theorem addr0 : mayAddr 0 0 false false 0 = true := by decide
theorem bt3_16 : bitP 3 16 = false := by decide
theorem bt3_32 : bitP 3 32 = false := by decide
theorem bt5_16 : bitP 5 16 = false := by decide
theorem bt5_32 : bitP 5 32 = false := by decide
theorem bt9_16 : bitP 9 16 = false := by decide
theorem bt9_32 : bitP 9 32 = false := by decide
theorem bt10_16 : bitP 10 16 = false := by decide
theorem bt10_32 : bitP 10 32 = false := by decide
theorem bt19_16 : bitP 19 16 = true := by decide
theorem bt19_32 : bitP 19 32 = false := by decide
theorem bt33_16 : bitP 33 16 = false := by decide
theorem bt33_32 : bitP 33 32 = true := by decide
theorem bt65_16 : bitP 65 16 = false := by decide
theorem bt65_32 : bitP 65 32 = false := by decide
theorem bt67_16 : bitP 67 16 = false := by decide
theorem bt67_32 : bitP 67 32 = false := by decide
theorem bt128_16 : bitP 128 16 = false := by decide
theorem bt128_32 : bitP 128 32 = false := by decide
theorem bt192_16 : bitP 192 16 = false := by decide
theorem bt192_32 : bitP 192 32 = false := by decide
theorem lk1 : partsT.lookup 1 = some 3 := by decide
theorem lk2 : partsT.lookup 2 = some 5 := by decide
theorem lk3 : partsT.lookup 3 = some 9 := by decide
theorem lk4 : partsT.lookup 4 = some 10 := by decide
theorem lk5 : partsT.lookup 5 = some 19 := by decide
theorem lk7 : partsT.lookup 7 = some 33 := by decide
theorem lk11 : partsT.lookup 11 = some 3 := by decide
theorem lk12 : partsT.lookup 12 = some 3 := by decide
theorem lk15 : partsT.lookup 15 = some 3 := by decide
theorem lk16 : partsT.lookup 16 = some 67 := by decide
theorem lk14 : partsT.lookup 14 = some 65 := by decide
theorem lk17 : partsT.lookup 17 = some 128 := by decide
theorem lk18 : partsT.lookup 18 = some 192 := by decide
theorem lk19 : partsT.lookup 19 = some 128 := by decide
/-- These may be, whatever registers they name. -/
theorem may_mov (d s : Int) (hd : isReg d = true) (hs : isReg s = true) : mayOne (amov d s) = true := by
  have e : stripA (amov d s) 3 = amov d s := by simp [stripA, bitP, IntKind.wrap, IntKind.bits, IntKind.signed]
  simp only [mayOne, lk1, lk2, lk3, lk4, lk5, lk7, lk11, lk12, lk14, lk15, lk16, lk17, lk18, lk19, e, bt3_16, bt3_32, bt5_16, bt5_32, bt9_16, bt9_32, bt10_16, bt10_32, bt19_16, bt19_32, bt33_16, bt33_32, bt65_16, bt65_32, bt67_16, bt67_32, bt128_16, bt128_32, bt192_16, bt192_32, hd, hs, addr0]
  simp
theorem may_bin (v s : Int) (h1 : 1 ≤ v) (h2 : v ≤ 8) (hs : isReg s = true) : mayOne (amd 5 v 0 0 0 s) = true := by
  have e : stripA (amd 5 v 0 0 0 s) 19 = amd 5 v 0 0 0 s := by simp [stripA, bitP, IntKind.wrap, IntKind.bits, IntKind.signed]
  simp only [mayOne, lk1, lk2, lk3, lk4, lk5, lk7, lk11, lk12, lk14, lk15, lk16, lk17, lk18, lk19, e, bt3_16, bt3_32, bt5_16, bt5_32, bt9_16, bt9_32, bt10_16, bt10_32, bt19_16, bt19_32, bt33_16, bt33_32, bt65_16, bt65_32, bt67_16, bt67_32, bt128_16, bt128_32, bt192_16, bt192_32, hs, addr0, isReg0]
  simp; omega
theorem may_shift (v : Int) (h1 : 1 ≤ v) (h2 : v ≤ 5) : mayOne (amd 7 0 v 0 0 0) = true := by
  have e : stripA (amd 7 0 v 0 0 0) 33 = amd 7 0 v 0 0 0 := by simp [stripA, bitP, IntKind.wrap, IntKind.bits, IntKind.signed]
  simp only [mayOne, lk1, lk2, lk3, lk4, lk5, lk7, lk11, lk12, lk14, lk15, lk16, lk17, lk18, lk19, e, bt3_16, bt3_32, bt5_16, bt5_32, bt9_16, bt9_32, bt10_16, bt10_32, bt19_16, bt19_32, bt33_16, bt33_32, bt65_16, bt65_32, bt67_16, bt67_32, bt128_16, bt128_32, bt192_16, bt192_32, addr0, isReg0]
  simp; omega
theorem may_cmp (op d s : Int) (h : op = 11 ∨ op = 12) (hd : isReg d = true) (hs : isReg s = true) : mayOne (amd op 0 0 0 d s) = true := by
  have e : stripA (amd op 0 0 0 d s) 3 = amd op 0 0 0 d s := by simp [stripA, bitP, IntKind.wrap, IntKind.bits, IntKind.signed]
  rcases h with rfl | rfl
  all_goals
    simp only [mayOne, lk1, lk2, lk3, lk4, lk5, lk7, lk11, lk12, lk14, lk15, lk16, lk17, lk18, lk19, e, bt3_16, bt3_32, bt5_16, bt5_32, bt9_16, bt9_32, bt10_16, bt10_32, bt19_16, bt19_32, bt33_16, bt33_32, bt65_16, bt65_32, bt67_16, bt67_32, bt128_16, bt128_32, bt192_16, bt192_32, hd, hs, addr0]
    simp
theorem may_byte (d s : Int) (hd : isReg d = true) (hs : isReg s = true) : mayOne (amd 15 0 0 0 d s) = true := by
  have e : stripA (amd 15 0 0 0 d s) 3 = amd 15 0 0 0 d s := by simp [stripA, bitP, IntKind.wrap, IntKind.bits, IntKind.signed]
  simp only [mayOne, lk1, lk2, lk3, lk4, lk5, lk7, lk11, lk12, lk14, lk15, lk16, lk17, lk18, lk19, e, bt3_16, bt3_32, bt5_16, bt5_32, bt9_16, bt9_32, bt10_16, bt10_32, bt19_16, bt19_32, bt33_16, bt33_32, bt65_16, bt65_32, bt67_16, bt67_32, bt128_16, bt128_32, bt192_16, bt192_32, hd, hs, addr0]
  simp
theorem may_one (op : Int) (h : op = 9 ∨ op = 10) : mayOne (amd op 0 0 0 0 0) = true := by
  rcases h with rfl | rfl <;> decide
theorem may_set0 : mayOne (amd 2 0 0 0 0 0) = true := by decide
theorem may_ret : mayOne retA = true := by decide
theorem may_setc (v : Int) (h1 : 0 ≤ v) (h2 : v ≤ 15) : mayOne (amd 14 0 0 v 0 0) = true := by
  have e : stripA (amd 14 0 0 v 0 0) 65 = amd 14 0 0 v 0 0 := by simp [stripA, bitP, IntKind.wrap, IntKind.bits, IntKind.signed]
  simp only [mayOne, lk1, lk2, lk3, lk4, lk5, lk7, lk11, lk12, lk14, lk15, lk16, lk17, lk18, lk19, e, bt3_16, bt3_32, bt5_16, bt5_32, bt9_16, bt9_32, bt10_16, bt10_32, bt19_16, bt19_32, bt33_16, bt33_32, bt65_16, bt65_32, bt67_16, bt67_32, bt128_16, bt128_32, bt192_16, bt192_32, addr0, isReg0]
  simp; omega
theorem may_movec (s : Int) (hs : isReg s = true) : mayOne (amd 16 0 0 5 0 s) = true := by
  have e : stripA (amd 16 0 0 5 0 s) 67 = amd 16 0 0 5 0 s := by simp [stripA, bitP, IntKind.wrap, IntKind.bits, IntKind.signed]
  simp only [mayOne, lk1, lk2, lk3, lk4, lk5, lk7, lk11, lk12, lk14, lk15, lk16, lk17, lk18, lk19, e, bt3_16, bt3_32, bt5_16, bt5_32, bt9_16, bt9_32, bt10_16, bt10_32, bt19_16, bt19_32, bt33_16, bt33_32, bt65_16, bt65_32, bt67_16, bt67_32, bt128_16, bt128_32, bt192_16, bt192_32, addr0, isReg0, hs]
  simp
theorem may_setw (d w : Int) (hd : isReg d = true) : mayOne ⟨2, 0, 0, 0, d, 0, w, 0, 0, false, false, 0, 0⟩ = true := by
  have e : stripA ⟨2, 0, 0, 0, d, 0, w, 0, 0, false, false, 0, 0⟩ 5 = ⟨2, 0, 0, 0, d, 0, w, 0, 0, false, false, 0, 0⟩ := by simp [stripA, bitP, IntKind.wrap, IntKind.bits, IntKind.signed]
  simp only [mayOne, lk1, lk2, lk3, lk4, lk5, lk7, lk11, lk12, lk14, lk15, lk16, lk17, lk18, lk19, e, bt3_16, bt3_32, bt5_16, bt5_32, bt9_16, bt9_32, bt10_16, bt10_32, bt19_16, bt19_32, bt33_16, bt33_32, bt65_16, bt65_32, bt67_16, bt67_32, bt128_16, bt128_32, bt192_16, bt192_32, addr0, isReg0, hd]
  simp
theorem may_label (op v : Int) (h : op = 17 ∨ op = 19) (h1 : 0 ≤ v) (h2 : v ≤ 1048576) : mayOne ⟨op, 0, 0, 0, 0, 0, 0, 0, 0, false, false, 0, v⟩ = true := by
  have e : stripA ⟨op, 0, 0, 0, 0, 0, 0, 0, 0, false, false, 0, v⟩ 128 = ⟨op, 0, 0, 0, 0, 0, 0, 0, 0, false, false, 0, v⟩ := by simp [stripA, bitP, IntKind.wrap, IntKind.bits, IntKind.signed]
  rcases h with rfl | rfl
  all_goals
    simp only [mayOne, lk1, lk2, lk3, lk4, lk5, lk7, lk11, lk12, lk14, lk15, lk16, lk17, lk18, lk19, e, bt3_16, bt3_32, bt5_16, bt5_32, bt9_16, bt9_32, bt10_16, bt10_32, bt19_16, bt19_32, bt33_16, bt33_32, bt65_16, bt65_32, bt67_16, bt67_32, bt128_16, bt128_32, bt192_16, bt192_32, addr0, isReg0]
    simp; omega
theorem may_branch (v : Int) (h1 : 0 ≤ v) (h2 : v ≤ 1048576) : mayOne ⟨18, 0, 0, 4, 0, 0, 0, 0, 0, false, false, 0, v⟩ = true := by
  have e : stripA ⟨18, 0, 0, 4, 0, 0, 0, 0, 0, false, false, 0, v⟩ 192 = ⟨18, 0, 0, 4, 0, 0, 0, 0, 0, false, false, 0, v⟩ := by simp [stripA, bitP, IntKind.wrap, IntKind.bits, IntKind.signed]
  simp only [mayOne, lk1, lk2, lk3, lk4, lk5, lk7, lk11, lk12, lk14, lk15, lk16, lk17, lk18, lk19, e, bt3_16, bt3_32, bt5_16, bt5_32, bt9_16, bt9_32, bt10_16, bt10_32, bt19_16, bt19_32, bt33_16, bt33_32, bt65_16, bt65_32, bt67_16, bt67_32, bt128_16, bt128_32, bt192_16, bt192_32, addr0, isReg0]
  simp; omega
theorem may_load (d b i disp : Int) (hb hi : Bool) (hd : isReg d = true) (ha : mayAddr b i hb hi disp = true) : mayOne ⟨3, 0, 0, 0, d, 0, 0, b, i, hb, hi, disp, 0⟩ = true := by
  have e : stripA ⟨3, 0, 0, 0, d, 0, 0, b, i, hb, hi, disp, 0⟩ 9 = ⟨3, 0, 0, 0, d, 0, 0, b, i, hb, hi, disp, 0⟩ := by simp [stripA, bitP, IntKind.wrap, IntKind.bits, IntKind.signed]
  simp only [mayOne, lk1, lk2, lk3, lk4, lk5, lk7, lk11, lk12, lk14, lk15, lk16, lk17, lk18, lk19, e, bt3_16, bt3_32, bt5_16, bt5_32, bt9_16, bt9_32, bt10_16, bt10_32, bt19_16, bt19_32, bt33_16, bt33_32, bt65_16, bt65_32, bt67_16, bt67_32, bt128_16, bt128_32, bt192_16, bt192_32, ha, isReg0, hd]
  simp
theorem may_store (s b i disp : Int) (hb hi : Bool) (hd : isReg s = true) (ha : mayAddr b i hb hi disp = true) : mayOne ⟨4, 0, 0, 0, 0, s, 0, b, i, hb, hi, disp, 0⟩ = true := by
  have e : stripA ⟨4, 0, 0, 0, 0, s, 0, b, i, hb, hi, disp, 0⟩ 10 = ⟨4, 0, 0, 0, 0, s, 0, b, i, hb, hi, disp, 0⟩ := by simp [stripA, bitP, IntKind.wrap, IntKind.bits, IntKind.signed]
  simp only [mayOne, lk1, lk2, lk3, lk4, lk5, lk7, lk11, lk12, lk14, lk15, lk16, lk17, lk18, lk19, e, bt3_16, bt3_32, bt5_16, bt5_32, bt9_16, bt9_32, bt10_16, bt10_32, bt19_16, bt19_32, bt33_16, bt33_32, bt65_16, bt65_32, bt67_16, bt67_32, bt128_16, bt128_32, bt192_16, bt192_32, ha, isReg0, hd]
  simp
end Go.Proofs
namespace Go.Proofs
open Go.Mu
theorem may_does (x : Ins) : ∀ y ∈ doesL x, mayOne y = true ∧ y.op ≠ 17 ∧ y.op ≠ 18 := by
  have hb : ∀ v, binT.lookup x.op = some v → 1 ≤ v ∧ v ≤ 8 := fun v h => by
    have := lookup_mem h
    simp [binT] at this; omega
  have hs : ∀ v, shiftT.lookup x.op = some v → 1 ≤ v ∧ v ≤ 5 := fun v h => by
    have := lookup_mem h
    simp [shiftT] at this; omega
  have hc : ∀ v, condT.lookup x.op = some v → 0 ≤ v ∧ v ≤ 15 := fun v h => by
    have := lookup_mem h
    simp [condT] at this; omega
  intro y hy
  unfold doesL at hy
  split at hy
  · rename_i v h
    simp only [List.mem_cons, List.not_mem_nil, or_false] at hy
    rcases hy with rfl | rfl | rfl
    · exact ⟨may_mov _ _ isReg0 (regOf_is _), by simp, by simp⟩
    · exact ⟨may_bin _ _ (hb _ h).1 (hb _ h).2 (regOf_is _), by simp, by simp⟩
    · exact ⟨may_mov _ _ (regOf_is _) isReg0, by simp, by simp⟩
  · split at hy
    · rename_i v h
      simp only [List.mem_cons, List.not_mem_nil, or_false] at hy
      rcases hy with rfl | rfl | rfl | rfl
      · exact ⟨may_mov _ _ isReg1 (regOf_is _), by simp, by simp⟩
      · exact ⟨may_mov _ _ isReg0 (regOf_is _), by simp, by simp⟩
      · exact ⟨may_shift _ (hs _ h).1 (hs _ h).2, by simp, by simp⟩
      · exact ⟨may_mov _ _ (regOf_is _) isReg0, by simp, by simp⟩
    · split at hy
      · rename_i v h
        simp only [List.mem_cons, List.not_mem_nil, or_false] at hy
        rcases hy with rfl | rfl | rfl | rfl
        · exact ⟨may_cmp _ _ _ (.inl rfl) (regOf_is _) (regOf_is _), by simp, by simp⟩
        · exact ⟨may_set0, by simp, by simp⟩
        · exact ⟨may_setc _ (hc _ h).1 (hc _ h).2, by simp, by simp⟩
        · exact ⟨may_byte _ _ (regOf_is _) isReg0, by simp, by simp⟩
      · split at hy
        · simp only [List.mem_cons, List.not_mem_nil, or_false] at hy
          rcases hy with rfl | rfl | rfl
          · exact ⟨may_mov _ _ isReg0 (regOf_is _), by simp, by simp⟩
          · exact ⟨may_one _ (.inl rfl), by simp, by simp⟩
          · exact ⟨may_mov _ _ (regOf_is _) isReg0, by simp, by simp⟩
        · split at hy
          · simp only [List.mem_cons, List.not_mem_nil, or_false] at hy
            rcases hy with rfl | rfl | rfl
            · exact ⟨may_mov _ _ isReg0 (regOf_is _), by simp, by simp⟩
            · exact ⟨may_one _ (.inr rfl), by simp, by simp⟩
            · exact ⟨may_mov _ _ (regOf_is _) isReg0, by simp, by simp⟩
          · simp only [List.mem_cons, List.not_mem_nil, or_false] at hy
            rcases hy with rfl | rfl | rfl | rfl
            · exact ⟨may_cmp _ _ _ (.inr rfl) (regOf_is _) (regOf_is _), by simp, by simp⟩
            · exact ⟨may_mov _ _ isReg0 (regOf_is _), by simp, by simp⟩
            · exact ⟨may_movec _ (regOf_is _), by simp, by simp⟩
            · exact ⟨may_mov _ _ (regOf_is _) isReg0, by simp, by simp⟩
theorem addr_placed (i : Ins) (hw : 0 ≤ i.word ∧ i.word < 18446744073709551616) (hs : short i.word = true) :
    mayAddr (if i.stack then 4 else 0) (if 0 ≤ i.a then regOf i.a else 0) i.stack (decide (0 ≤ i.a)) (IntKind.i64.wrap i.word) = true := by
  have e : IntKind.u64.wrap (IntKind.i64.wrap i.word) = i.word := by
    simp [IntKind.wrap, IntKind.bits, IntKind.signed]; omega
  have hr := regOf_cases i.a
  simp only [List.mem_cons, List.not_mem_nil, or_false] at hr
  have h4 : regOf i.a ≠ 4 := by omega
  unfold mayAddr
  rw [e, hs]
  cases i.stack <;> by_cases ha : 0 ≤ i.a <;> simp [ha, regOf_is, isReg0, h4, show isReg 4 = true by decide]
/-- A line's instructions, where its label is a number of a label that stands. -/
theorem may_line (x : Line) (v : Int) (hx : LineIn x) (hw : wordIn x) (hl : longIns x = false) (hv : 0 ≤ v ∧ v ≤ 1048576) : ∀ y ∈ lineL x v, mayOne y = true ∧ ((y.op = 17 ∨ y.op = 18) → y.label = v ∧ (x.kind = 3 ∨ x.kind = 4)) := by
  intro y hy
  unfold lineL at hy
  split at hy
  · simp only [List.mem_cons, List.not_mem_nil, or_false] at hy
    subst hy
    exact ⟨may_label 19 v (.inr rfl) hv.1 hv.2, by simp⟩
  split at hy
  · rename_i hk
    simp only [List.mem_cons, List.not_mem_nil, or_false] at hy
    subst hy
    exact ⟨may_label 17 v (.inl rfl) hv.1 hv.2, by simp [hk]⟩
  split at hy
  · rename_i hk
    simp only [List.mem_cons, List.not_mem_nil, or_false] at hy
    rcases hy with rfl | rfl
    · exact ⟨may_cmp _ _ _ (.inr rfl) (regOf_is _) (regOf_is _), by simp⟩
    · exact ⟨may_branch v hv.1 hv.2, by simp [hk]⟩
  split at hy
  · simp only [List.mem_cons, List.not_mem_nil, or_false] at hy
    subst hy
    exact ⟨may_ret, by simp⟩
  rename_i k2 k3 k4 k5
  have hk1 : x.kind = 1 := by have := hx.kind; omega
  have hin := hx.ins hk1
  split at hy
  · simp only [List.mem_cons, List.not_mem_nil, or_false] at hy
    subst hy
    exact ⟨may_setw _ _ (regOf_is _), by simp⟩
  split at hy
  · simp only [List.mem_cons, List.not_mem_nil, or_false] at hy
    subst hy
    exact ⟨may_mov _ _ (regOf_is _) (regOf_is _), by simp⟩
  split at hy
  · have := may_does x.ins y hy
    exact ⟨this.1, fun h => by rcases h with h | h; exact absurd h this.2.1; exact absurd h this.2.2⟩
  have hsh : short x.ins.word = true := by
    unfold longIns at hl
    rename_i i1 i2 i3
    have : x.ins.kind = 4 ∨ x.ins.kind = 5 := by omega
    rcases this with h | h <;> simpa [hk1, h] using hl
  have ha := addr_placed x.ins hw hsh
  split at hy
  · simp only [List.mem_cons, List.not_mem_nil, or_false] at hy
    subst hy
    exact ⟨may_load _ _ _ _ _ _ (regOf_is _) ha, by simp [placed]⟩
  · simp only [List.mem_cons, List.not_mem_nil, or_false] at hy
    subst hy
    exact ⟨may_store _ _ _ _ _ _ (regOf_is _) ha, by simp [placed]⟩
theorem ok_len {l : Linear} (h : l.ok = true) : l.code.length ≤ 65536 := by
  simp only [Linear.ok, Bool.and_eq_true, decide_eq_true_eq] at h; exact h.1.1
theorem may_made {l : Linear} (h : wrongL l = 0) (hw : ∀ x ∈ l.code, wordIn x) : mayA (makeA l).code = true := by
  obtain ⟨hok, hv11, hlong⟩ := wrong_zero h
  have hlen := make_len l
  have hl65 := ok_len hok
  have hn := ok_nodup hok
  unfold mayA
  rw [keys_make hok]
  simp only [Bool.and_eq_true, decide_eq_true_eq, List.all_eq_true]
  refine ⟨⟨by omega, ?_⟩, ?_⟩
  · rw [List.nodup_iff_pairwise_ne, List.pairwise_map]
    exact (List.nodup_range).imp (fun hne e => hne (by omega))
  · intro y hy
    have good : mayOne y = true ∧ ((y.op = 17 ∨ y.op = 18) → y.label ∈ keysA (makeA l).code) := by
      unfold makeA at hy
      simp only [List.mem_append, List.mem_flatMap] at hy
      rcases hy with ⟨x, hx, hy⟩ | hy
      · have hle := labNo_le l.code x.label hn
        have hlx : longIns x = false := by
          rw [List.any_eq_false] at hlong; simpa using hlong x hx
        have := may_line x (labNo l.code x.label) (wrong_lines h x hx) (hw x hx) hlx ⟨hle.1, by omega⟩ y hy
        refine ⟨this.1, fun hop => ?_⟩
        obtain ⟨e1, e2⟩ := this.2 hop
        have hst := ok_stands hok x hx e2
        have hlt := labNo_in hn hst
        rw [keys_make hok, e1, List.mem_map]
        exact ⟨(labNo l.code x.label).toNat, by rw [List.mem_range]; omega, by omega⟩
      · split at hy
        · simp at hy
        · simp at hy; subst hy; exact ⟨may_ret, by simp⟩
    unfold goodA
    rw [good.1]
    by_cases hop : y.op = 17 ∨ y.op = 18
    · simp [good.2 hop]
    · simp only [not_or] at hop
      simp [hop.1, hop.2]
theorem may_asm {l : Linear} (h : wrongL l = 0) (hw : ∀ x ∈ l.code, wordIn x) : mayAsm (makeA l) = true := by
  obtain ⟨hok, hv11, hlong⟩ := wrong_zero h
  obtain ⟨hrp, hrr⟩ := wrong_regs h
  have hh := ok_head hok
  simp only [headOk, Bool.and_eq_true, decide_eq_true_eq] at hh
  have hap := apart_regs l.vars hv11 l.params [] (by simp) hh.1.2
  simp only [List.map_nil] at hap
  unfold mayAsm
  rw [may_made h hw]
  simp only [makeA, hap, Bool.true_and, Bool.and_eq_true, Bool.not_eq_true', List.any_eq_false, List.mem_map, frameOk, decide_eq_true_eq, beq_iff_eq]
  have hf : 0 ≤ l.frame ∧ l.frame ≤ 8192 ∧ l.frame % 16 = 0 := ⟨hh.1.1.1.1.1.2, hh.1.1.1.1.2, hh.1.1.1.2⟩
  refine ⟨⟨?_, ?_⟩, ⟨decide_eq_true hf.1, decide_eq_true hf.2.1⟩, ?_⟩
  · rintro r ⟨v, hv, rfl⟩; simp [regOf_odd v (hrp v hv)]
  · rintro r ⟨v, hv, rfl⟩; simp [regOf_odd v (hrr v hv)]
  · rw [Int.tmod_eq_emod_of_nonneg hf.1]; exact hf.2.2
end Go.Proofs
namespace Go.Proofs
open Go.Mu
theorem sameAsm_ok (a b : Asm) (h1 : a.code.length ≤ 2^40) (h2 : a.params.length ≤ 2^40) (h3 : a.rets.length ≤ 2^40) (H : List Blk) : ACalls Try.prog 27 [.agg a.cells, .agg b.cells] H (fun e H' => e = .ret (Bo (decide (a = b))) ∧ H' = H) := by
  refine acalls_tidy (acalls_of_vc (hn := fun d => false) (od := fun i => none) Try.func27 rfl (by kernel_rfl) ?_)
  have leaf : Hid (∀ (L : List Blk) (c : Bool), c = decide (a = b) → Tidy H (fun e H' => e = AE.ret (Bo (decide (a = b))) ∧ H' = H) (AE.ret (AV.v (Value.bool c))) (H ++ L)) := ⟨fun L c hb => tidy_same rfl ⟨by rw [hb], rfl⟩⟩
  have hs := fun H => sameAmds_ok a.code b.code h1 H
  simp -dsimp
  refine acallsW_det (hs _) ?_
  by_cases hc : a.code = b.code
  rotate_left
  · have hd : decide (a.code = b.code) = false := by simp [hc]
    simp -dsimp [hd]
    refine leaf.out _ _ ?_
    symm; rw [decide_eq_false_iff_not]; rintro rfl; exact hc rfl
  have hd : decide (a.code = b.code) = true := by simp [hc]
  simp -dsimp [hd]
  repeat' ((with_reducible first | refine And.intro ?_ ?_ | refine guardVW_introTD (fun _ => ?_) (fun _ => ?_) | refine guardVW_introFD (fun _ => ?_) (fun _ => ?_) | refine condVW_introD (fun _ => ?_) (fun _ => ?_) | refine guardVW_introTE (fun _ => ?_) (fun _ _ _ => ?_) | refine guardVW_introFE (fun _ => ?_) (fun _ _ _ => ?_) | refine condVW_introE (fun _ => ?_) (fun _ _ _ => ?_) | refine guardVW_introTNE (fun _ _ _ => ?_) (fun _ => ?_) | refine guardVW_introFNE (fun _ _ _ => ?_) (fun _ => ?_) | refine condVW_introNE (fun _ _ _ => ?_) (fun _ => ?_) | refine guardVW_introTB (fun _ => ?_) (fun _ => ?_) | refine guardVW_introFB (fun _ => ?_) (fun _ => ?_) | refine condVW_introB (fun _ => ?_) (fun _ => ?_) | refine guardVW_introT (fun _ => ?_) (fun _ => ?_) | refine guardVW_introF (fun _ => ?_) (fun _ => ?_) | refine condVW_intro (fun _ => ?_) (fun _ => ?_)) <;> simp -dsimp [*])
  case refine_2.refine_2.refine_2 e1 e2 e3 =>
    have e1' : a.params.length = b.params.length := by omega
    have e2' : a.rets.length = b.rets.length := by omega
    refine loop_rule (hn := fun _ => false) (od := fun _ => none) (fun (i : Nat) f H' => H' = H ++ [Blk.box 59 [Amd.sl a.code, Int.sl a.params, Int.sl a.rets, I a.frame], Blk.box 59 [Amd.sl b.code, Int.sl b.params, Int.sl b.rets, I b.frame]] ∧ f 2 = .bp H.length 0 ∧ f 3 = .bp (H.length + 1) 0 ∧ f 5 = I i ∧ i ≤ a.params.length ∧ a.params.take i = b.params.take i) (fun i => a.params.length - i) (by kernel_rfl) 0 (by simp [e3, hc]) ?_
    rintro i f H' ⟨rfl, f2, f3, f5, hi, hok⟩
    simp -dsimp [f2, f3, f5]
    refine condVW_introD (fun hlt => ?_) (fun hlt => ?_)
    · have hlt' : i < b.params.length := by omega
      have ga : a.params[i]? = some a.params[i] := List.getElem?_eq_getElem hlt
      have gb : b.params[i]? = some b.params[i] := List.getElem?_eq_getElem hlt'
      simp -dsimp [f2, f3, f5, ga, gb]
      refine condVW_introNE (fun hne _ _ => ?_) (fun heq => ?_)
      · simp -dsimp
        refine leaf.out _ _ ?_
        symm; rw [decide_eq_false_iff_not]; rintro rfl; exact hne rfl
      · simp -dsimp [f2, f3, f5]
        exact ⟨i + 1, by omega, wrapS (by omega), by omega, take_next hlt hlt' hok heq⟩
    · have hpp : a.params = b.params := by
        rw [List.take_of_length_le (by omega), List.take_of_length_le (by omega)] at hok; exact hok
      simp -dsimp [f2, f3, f5]
      refine loop_rule (hn := fun _ => false) (od := fun _ => none) (fun (i : Nat) f H' => H' = H ++ [Blk.box 59 [Amd.sl a.code, Int.sl a.params, Int.sl a.rets, I a.frame], Blk.box 59 [Amd.sl b.code, Int.sl b.params, Int.sl b.rets, I b.frame]] ∧ f 2 = .bp H.length 0 ∧ f 3 = .bp (H.length + 1) 0 ∧ f 6 = I i ∧ i ≤ a.rets.length ∧ a.rets.take i = b.rets.take i) (fun i => a.rets.length - i) (by kernel_rfl) 0 (by simp [f2, f3]) ?_
      clear f2 f3 f5 hi hlt hok
      rintro j g H' ⟨rfl, f2, f3, f6, hi, hok⟩
      simp -dsimp [f2, f3, f6]
      refine condVW_introD (fun hlt => ?_) (fun hlt => ?_)
      · have hlt' : j < b.rets.length := by omega
        have ga : a.rets[j]? = some a.rets[j] := List.getElem?_eq_getElem hlt
        have gb : b.rets[j]? = some b.rets[j] := List.getElem?_eq_getElem hlt'
        simp -dsimp [f2, f3, f6, ga, gb]
        refine condVW_introNE (fun hne _ _ => ?_) (fun heq => ?_)
        · simp -dsimp
          refine leaf.out _ _ ?_
          symm; rw [decide_eq_false_iff_not]; rintro rfl; exact hne rfl
        · simp -dsimp [f2, f3, f6]
          exact ⟨j + 1, by omega, wrapS (by omega), by omega, take_next hlt hlt' hok heq⟩
      · simp -dsimp [f2, f3, f6]
        rw [List.take_of_length_le (by omega), List.take_of_length_le (by omega)] at hok
        refine leaf.out _ _ ?_
        cases a; cases b
        simp_all
  all_goals refine leaf.out _ _ ?_
  all_goals (symm; rw [decide_eq_false_iff_not]; rintro rfl; simp_all)
end Go.Proofs
namespace Go.Proofs
open Go.Mu
/-- How many labels stand ahead of this one. -/
def cntL : List Line → Int → Int → Int
  | [], _, n => n
  | y :: c, v, n => if y.kind = 2 ∧ y.label = v then n else cntL c v (if y.kind = 2 then n + 1 else n)
theorem cntL_app (pre rest : List Line) (x : Line) (hk : x.kind = 2) (n : Int) (h : x.label ∉ labs pre) : cntL (pre ++ x :: rest) x.label n = n + (labs pre).length := by
  induction pre generalizing n with
  | nil => simp [cntL, hk, labs]
  | cons y pre ih =>
    simp only [List.cons_append, cntL]
    simp only [labs] at h
    by_cases hy : y.kind = 2
    · simp only [hy, if_true, List.mem_cons, not_or] at h
      rw [if_neg (fun e => h.1 e.2.symm), if_pos hy, ih _ h.2]
      simp [labs, hy]; omega
    · simp only [hy, if_false] at h
      rw [if_neg (fun e => hy e.1), if_neg hy, ih _ h]
      simp [labs, hy]
theorem cnt_labNo {c : List Line} {v : Int} (h : (labs c).Nodup) (hv : v ∈ labs c) : cntL c v 0 = labNo c v := by
  obtain ⟨pre, x, rest, rfl, hk, rfl⟩ : ∃ pre x rest, c = pre ++ x :: rest ∧ x.kind = 2 ∧ x.label = v := by
    clear h
    induction c with
    | nil => simp [labs] at hv
    | cons y c ih =>
      rw [labs] at hv
      split at hv
      · rename_i hk
        rcases List.mem_cons.1 hv with rfl | hv
        · exact ⟨[], y, c, rfl, hk, rfl⟩
        · obtain ⟨pre, x, rest, rfl, h1, h2⟩ := ih hv; exact ⟨y :: pre, x, rest, rfl, h1, h2⟩
      · obtain ⟨pre, x, rest, rfl, h1, h2⟩ := ih hv; exact ⟨y :: pre, x, rest, rfl, h1, h2⟩
  have h' := h
  rw [labs_app, labs, if_pos hk, List.nodup_append] at h'
  rw [labNo_at h hk, cntL_app pre rest x hk 0 (fun hm => h'.2.2 x.label hm x.label (by simp) rfl)]
  omega
theorem labs_mem {c : List Line} {x : Line} (hx : x ∈ c) (hk : x.kind = 2) : x.label ∈ labs c := by
  induction c with
  | nil => simp at hx
  | cons y c ih =>
    rw [labs]
    rcases List.mem_cons.1 hx with rfl | hx
    · rw [if_pos hk]; simp
    · split
      · exact List.mem_cons_of_mem _ (ih hx)
      · exact ih hx
theorem lineL_any (x : Line) (h : x.kind ≠ 2 ∧ x.kind ≠ 3 ∧ x.kind ≠ 4) (v w : Int) : lineL x v = lineL x w := by
  unfold lineL; simp only [h.1, h.2.1, h.2.2, if_false]
theorem lineL_cnt {l : Linear} (h : l.ok = true) {x : Line} (hx : x ∈ l.code) : lineL x (cntL l.code x.label 0) = lineL x (labNo l.code x.label) := by
  by_cases hk : x.kind = 2
  · rw [cnt_labNo (ok_nodup h) (labs_mem hx hk)]
  · by_cases hk3 : x.kind = 3 ∨ x.kind = 4
    · rw [cnt_labNo (ok_nodup h) (ok_stands h x hx hk3)]
    · simp only [not_or] at hk3
      exact lineL_any x ⟨hk, hk3.1, hk3.2⟩ _ _
end Go.Proofs
namespace Go.Proofs
open Go.Mu
theorem lowerMakes_ok (l : Linear) (hp : l.params.length ≤ 2^36) (hr : l.rets.length ≤ 2^36) (hc : l.code.length ≤ 2^36) (hw : ∀ x ∈ l.code, wordIn x) (H : List Blk) : ACalls Try.prog 7 [.agg l.cells] H (fun e H' => e = .ret (Bo true) ∧ H' = H) := by
  refine acalls_under fun hu _ => acalls_tidy (acalls_spare 3 (acalls_of_vc (hn := fun d => d == 61 || d == 81 || d == 136 || d == 147) (od := fun _ => none) Try.func7 rfl (by kernel_rfl) ?_))
  have leaf : Hid (∀ (L : List Blk), Tidy H (fun e H' => e = AE.ret (Bo true) ∧ H' = H) (AE.ret (Bo true)) (H ++ L)) := ⟨fun L => tidy_same rfl ⟨rfl, rfl⟩⟩
  have kn := known20_ok
  have cs := fun H => short_lin_ok l H
  have ca := fun H => ask_ok l (by omega) (by omega) (by omega) hw H
  have cm := fun H => lowerMake_ok l hp hr hc H
  have c17 := rregs_ok
  simp only [Linear.cells, Asm.cells] at cs ca cm
  simp -dsimp
  refine acallsW_det (cs _) ?_
  simp -dsimp
  refine condVW_introB (fun hs => ?_) (fun hs => ?_)
  · simp -dsimp
    refine acallsW_det (kn _) ?_
    simp -dsimp
    exact leaf.out _
  simp -dsimp
  refine acallsW_det (cm _) ?_
  simp -dsimp
  refine acallsW_det (ca _) ?_
  simp -dsimp
  refine condVW_introNE (fun h0 _ _ => ?_) (fun h0 => ?_)
  · have hm : lowerMake l = (⟨[], [], [], 0⟩, wrongL l) := by simp [lowerMake, h0]
    rw [hm]
    have sa := fun H => sameAsm_ok ⟨[], [], [], 0⟩ ⟨[], [], [], 0⟩ (by simp) (by simp) (by simp) H
    simp -dsimp
    refine acallsW_of (acalls_weak (args' := [.agg (Asm.mk [] [] [] 0).cells, .agg (Asm.mk [] [] [] 0).cells]) (.cons (.refl _) (.cons (.aggL (.cons (.nil 13) (.cons (.nil 1) (.cons (.nil 1) (.cons (.refl _) .nil))))) .nil)) (sa _)) (fun e H' hq => ?_)
    obtain ⟨rfl, rfl⟩ := hq
    simp -dsimp
    refine acallsW_det (kn _) ?_
    simp -dsimp
    exact leaf.out _
  have hm : lowerMake l = (makeA l, 0) := by simp [lowerMake, h0]
  rw [hm]
  simp -dsimp
  refine acallsW_det (c17 _) ?_
  simp -dsimp
  have hok := (wrong_zero h0).1
  have hln := wrong_lines h0
  obtain ⟨hrp, hrr⟩ := wrong_regs h0
  obtain ⟨W, hW⟩ : ∃ W, W = makeA l := ⟨_, rfl⟩
  rw [← hW]
  obtain ⟨A, hA⟩ : ∃ A, A = [Blk.box 30 [I l.vars, Int.sl l.params, Int.sl l.rets, I l.frame, Line.sl l.code], .box 59 [Amd.sl W.code, Int.sl W.params, Int.sl W.rets, I W.frame]] := ⟨_, rfl⟩
  have hAl : A.length = 2 := by rw [hA]; rfl
  have hM : H ++ [Blk.pend, Blk.pend, Blk.pend, Blk.box 30 [I l.vars, Int.sl l.params, Int.sl l.rets, I l.frame, Line.sl l.code], .box 59 [Amd.sl W.code, Int.sl W.params, Int.sl W.rets, I W.frame], .box 59 [nilS, nilS, nilS, I l.frame]] = mkM H A [] [] [] (.box 59 [nilS, nilS, nilS, I l.frame]) [] := by
    rw [hA]; simp [mkM]
  have G30 : ∀ c p r bx X, (mkM H A c p r bx X)[H.length + 3]? = some (Blk.box 30 [I l.vars, Int.sl l.params, Int.sl l.rets, I l.frame, Line.sl l.code]) := fun c p r bx X => mkM_a (j := 0) (by rw [hA]; rfl)
  have G59 : ∀ c p r bx X, (mkM H A c p r bx X)[H.length + 4]? = some (.box 59 [Amd.sl W.code, Int.sl W.params, Int.sl W.rets, I W.frame]) := fun c p r bx X => mkM_a (j := 1) (by rw [hA]; rfl)
  have Gb : ∀ c p r bx X, (mkM H A c p r bx X)[H.length + 5]? = some bx := fun c p r bx X => by have := mkM_bx (H := H) (A := A) (c := c) (p := p) (r := r) (bx := bx) (X := X); rwa [hAl] at this
  have Sb : ∀ c p r bx X bx', (mkM H A c p r bx X).set (H.length + 5) bx' = mkM H A c p r bx' X := fun c p r bx X bx' => by have := mkM_sb (H := H) (A := A) (c := c) (p := p) (r := r) (bx := bx) (X := X) (bx' := bx'); rwa [hAl] at this
  rw [hM]
  obtain ⟨rp, hrpe⟩ : ∃ rp, rp = l.params.map fun v => [I (regOf v)] := ⟨_, rfl⟩
  obtain ⟨rr, hrre⟩ : ∃ rr, rr = l.rets.map fun v => [I (regOf v)] := ⟨_, rfl⟩
  have hrpl : rp.length = l.params.length := by rw [hrpe]; simp
  have hrrl : rr.length = l.rets.length := by rw [hrre]; simp
  have hA' := hA
  clear hA hM
  refine loop_rule (hn := fun d => d == 61 || d == 81 || d == 136 || d == 147) (od := fun _ => none) (fun (i : Nat) f H' => H' = mkM H A [] (rp.take i) [] (.box 59 [nilS, ownS (H.length + 1) (rp.take i), nilS, I l.frame]) [] ∧
    f 1 = .bp (H.length + 3) 0 ∧ f 3 = .bp (H.length + 4) 0 ∧ f 4 = I 0 ∧ f 6 = .vs 1 regS ∧ f 7 = .bp (H.length + 5) 0 ∧ f 8 = I i ∧ i ≤ l.params.length) (fun i => l.params.length - i) (by kernel_rfl) 0 (by simp) ?_
  rintro i f H' ⟨rfl, f1, f3, f4, f6, f7, f8, hi⟩
  simp -dsimp [f1, f3, f4, f6, f7, f8, G30]
  refine condVW_introD (fun hlt => ?_) (fun hlt => ?_)
  · have hv : 0 ≤ l.params[i] ∧ l.params[i] < 11 := hrp _ (List.getElem_mem hlt)
    have hg : l.params[i]? = some l.params[i] := List.getElem?_eq_getElem hlt
    have hrg : regS[l.params[i].toNat]? = some [I (regOf l.params[i])] := by
      have h11 : l.params[i].toNat < regS.length := by simp; omega
      rw [List.getElem?_eq_getElem h11, regS_get _ h11]
    have hnext : rp.take i ++ [[I (regOf l.params[i])]] = rp.take (i + 1) := by
      rw [List.take_succ_eq_append_getElem (by omega)]; simp [hrpe]
    simp -dsimp [f1, f3, f4, f6, f7, f8, G30, Gb, hg, hv, regS_get]
    refine appendVW_own mkM_r1 (by simp; omega) (by simp; omega) ?_
    simp -dsimp [f1, f3, f4, f6, f7, f8, hnext, Gb, Sb, mkM_s1]
    exact ⟨i + 1, by omega, rfl, wrapS (by omega), by omega⟩
  have e1 : rp.take i = rp := List.take_of_length_le (by omega)
  simp -dsimp [f1, f3, f4, f6, f7, f8, e1]
  refine loop_rule (hn := fun d => d == 61 || d == 81 || d == 136 || d == 147) (od := fun _ => none) (fun (i : Nat) f H' => H' = mkM H A [] rp (rr.take i) (.box 59 [nilS, ownS (H.length + 1) rp, ownS (H.length + 2) (rr.take i), I l.frame]) [] ∧
    f 1 = .bp (H.length + 3) 0 ∧ f 3 = .bp (H.length + 4) 0 ∧ f 4 = I 0 ∧ f 6 = .vs 1 regS ∧ f 7 = .bp (H.length + 5) 0 ∧ f 9 = I i ∧ i ≤ l.rets.length) (fun i => l.rets.length - i) (by kernel_rfl) 0 (by simp [f1, f3, f4, f6, f7]) ?_
  clear f1 f3 f4 f6 f7 f8 hlt hi e1 i f
  rintro i f H' ⟨rfl, f1, f3, f4, f6, f7, f9, hi⟩
  simp -dsimp [f1, f3, f4, f6, f7, f9, G30]
  refine condVW_introD (fun hlt => ?_) (fun hlt => ?_)
  · have hv : 0 ≤ l.rets[i] ∧ l.rets[i] < 11 := hrr _ (List.getElem_mem hlt)
    have hg : l.rets[i]? = some l.rets[i] := List.getElem?_eq_getElem hlt
    have hrg : regS[l.rets[i].toNat]? = some [I (regOf l.rets[i])] := by
      have h11 : l.rets[i].toNat < regS.length := by simp; omega
      rw [List.getElem?_eq_getElem h11, regS_get _ h11]
    have hnext : rr.take i ++ [[I (regOf l.rets[i])]] = rr.take (i + 1) := by
      rw [List.take_succ_eq_append_getElem (by omega)]; simp [hrre]
    simp -dsimp [f1, f3, f4, f6, f7, f9, G30, Gb, hg, hv, regS_get]
    refine appendVW_own mkM_r2 (by simp; omega) (by simp; omega) ?_
    simp -dsimp [f1, f3, f4, f6, f7, f9, hnext, Gb, Sb, mkM_s2]
    exact ⟨i + 1, by omega, rfl, wrapS (by omega), by omega⟩
  have e1 : rr.take i = rr := List.take_of_length_le (by omega)
  simp -dsimp [f1, f3, f4, f6, f7, f9, e1]
  have c22 := fun (x : Line) (hx : x ∈ l.code) (n : Int) H => rline_ok x n (hln x hx) H
  obtain ⟨cd, hcd⟩ : ∃ cd : Nat → List (List AV), ∀ i, cd i = ((l.code.take i).flatMap fun x => lineL x (labNo l.code x.label)).map Amd.cells := ⟨_, fun _ => rfl⟩
  have hcdl : ∀ i, (cd i).length ≤ 4 * l.code.length := by
    intro i; rw [hcd]; have := flat_len (l.code.take i) (fun x => labNo l.code x.label); simp only [List.length_take] at this; simp only [List.length_map]; omega
  refine loop_rule (hn := fun d => d == 61 || d == 81 || d == 136 || d == 147) (od := fun _ => none) (fun (i : Nat) f H' => (∃ X, H' = mkM H A (cd i) rp rr (.box 59 [ownS H.length (cd i), ownS (H.length + 1) rp, ownS (H.length + 2) rr, I l.frame]) X) ∧
    f 1 = .bp (H.length + 3) 0 ∧ f 3 = .bp (H.length + 4) 0 ∧ f 4 = I 0 ∧ f 7 = .bp (H.length + 5) 0 ∧ f 10 = Bo (endsL (l.code.take i)) ∧ f 11 = I i ∧ i ≤ l.code.length) (fun i => l.code.length - i) (by kernel_rfl) 0 (by simp [f1, f3, f4, f7, hcd, endsL]; exact ⟨[], rfl⟩) ?_
  clear f1 f3 f4 f6 f7 f9 hlt hi e1 i f
  rintro i f H' ⟨⟨X, rfl⟩, f1, f3, f4, f7, f10, f11, hi⟩
  simp -dsimp [f1, f3, f4, f7, f10, f11, G30]
  refine condVW_introD (fun hlt => ?_) (fun hlt => ?_)
  · have hnext : cd i ++ (lineL l.code[i] (labNo l.code l.code[i].label)).map Amd.cells = cd (i + 1) := by
      rw [hcd, hcd, List.take_succ_eq_append_getElem hlt, List.flatMap_append, List.map_append]; simp
    have hgc : l.code[i]? = some l.code[i] := List.getElem?_eq_getElem hlt
    have c22' := c22 l.code[i] (List.getElem_mem hlt)
    have hend : endsL (l.code.take (i + 1)) = (l.code[i].kind == 5) := by
      unfold endsL
      rw [List.take_succ_eq_append_getElem hlt, List.getLast?_concat]
    simp only [Line.cells] at c22'
    obtain ⟨K, hK⟩ : ∃ K, K = H.length + 4 + A.length + X.length := ⟨_, rfl⟩
    have kl : ∀ c p r bx, (mkM H A c p r bx X).length = K := fun c p r bx => by rw [mkM_len, hK]
    have kg : ∀ c p r bx b, (mkM H A c p r bx (X ++ [b]))[K]? = some b := fun c p r bx b => by rw [hK, mkM_x]; simp
    have ks : ∀ c p r bx b b', (mkM H A c p r bx (X ++ [b])).set K b' = mkM H A c p r bx (X ++ [b']) := fun c p r bx b b' => by rw [hK, mkM_sx, set_end]
    simp -dsimp [f1, f3, f4, f7, f10, f11, G30, hgc, mkM_app, kl, kg, ks]
    refine loop_rule (hn := fun d => d == 61 || d == 81 || d == 136 || d == 147) (od := fun _ => none) (fun (k : Nat) g H' => (∃ n : Int, g 13 = I n ∧ cntL (l.code.drop k) l.code[i].label n = cntL l.code l.code[i].label 0 ∧ 0 ≤ n ∧ n ≤ k) ∧
      H' = mkM H A (cd i) rp rr (.box 59 [ownS H.length (cd i), ownS (H.length + 1) rp, ownS (H.length + 2) rr, I l.frame]) (X ++ [Blk.box 45 [I l.code[i].kind, I l.code[i].ins.kind, I l.code[i].ins.op, I l.code[i].ins.d, I l.code[i].ins.a, I l.code[i].ins.b, I l.code[i].ins.c, U l.code[i].ins.word, Bo l.code[i].ins.stack, I l.code[i].var, I l.code[i].label]]) ∧
      g 1 = .bp (H.length + 3) 0 ∧ g 3 = .bp (H.length + 4) 0 ∧ g 4 = I 0 ∧ g 7 = .bp (H.length + 5) 0 ∧ g 11 = I i ∧ g 12 = .bp K 0 ∧ g 14 = I k ∧ k ≤ l.code.length) (fun k => l.code.length - k) (by kernel_rfl) 0 (by refine ⟨⟨0, ?_⟩, rfl, ?_⟩ <;> simp [f1, f3, f4, f7, f11]) ?_
    clear f1 f3 f4 f7 f10 f11
    rintro k g H' ⟨⟨n, g13, hcn, hn0, hnk⟩, rfl, g1, g3, g4, g7, g11, g12, g14, hk⟩
    simp -dsimp [g1, g3, g4, g7, g11, g12, g13, g14, G30, kg]
    refine guardVW_introTD (fun hkl => ?_) (fun hkl => ?_)
    · have hgk : l.code[k]? = some l.code[k] := List.getElem?_eq_getElem hkl
      rw [drop_cons hkl, cntL] at hcn
      by_cases hk2 : l.code[k].kind = 2
      · have hb2 : (l.code[k].kind != 2) = false := by simp [hk2]
        by_cases hlb : l.code[k].label = l.code[i].label
        · rw [if_pos ⟨hk2, hlb⟩] at hcn
          have hbl : (l.code[k].label != l.code[i].label) = false := by simp [hlb]
          simp -dsimp [g1, g3, g4, g7, g11, g12, g13, g14, G30, Gb, kg, hgk, hkl, hb2, hbl]
          refine callDW_intro (c22' _ _) ?_
          have hcx : lineL l.code[i] n = lineL l.code[i] (labNo l.code l.code[i].label) := by rw [hcn]; exact lineL_cnt hok (List.getElem_mem hlt)
          rw [hcx]
          have hle := hcdl i
          have hle2 := lineL_len l.code[i] (labNo l.code l.code[i].label)
          simp -dsimp [g1, g3, g4, g7, g11, g12, g13, g14, Gb, kg]
          refine appendVW_own mkM_r0 (by simp; omega) (by simp; omega) ?_
          simp -dsimp [g1, g3, g4, g7, g11, g12, g13, g14, hnext, Gb, Sb, mkM_s0, kg]
          exact ⟨i + 1, by omega, ⟨_, rfl⟩, hend.symm, wrapS (by omega), by omega⟩
        · rw [if_neg (fun h => hlb h.2), if_pos hk2] at hcn
          have hbl : (l.code[k].label != l.code[i].label) = true := by simp [hlb]
          have hbe : (l.code[k].kind == 2) = true := by simp [hk2]
          simp -dsimp [g1, g3, g4, g7, g11, g12, g13, g14, G30, Gb, kg, hgk, hkl, hb2, hbl, hbe]
          rw [show IntKind.i64.wrap (n + 1) = n + 1 from wrapI (by omega) (by omega)]
          exact ⟨k + 1, by omega, ⟨hcn, by omega, by omega⟩, wrapS (by omega), by omega⟩
      · rw [if_neg (fun h => hk2 h.1), if_neg hk2] at hcn
        have hb2 : (l.code[k].kind != 2) = true := by simp [hk2]
        have hbe : (l.code[k].kind == 2) = false := by simp [hk2]
        simp -dsimp [g1, g3, g4, g7, g11, g12, g13, g14, G30, Gb, kg, hgk, hkl, hb2, hbe]
        exact ⟨k + 1, by omega, ⟨hcn, by omega, by omega⟩, wrapS (by omega), by omega⟩
    · rw [drop_end hkl, cntL] at hcn
      simp -dsimp [g1, g3, g4, g7, g11, g12, g13, g14, G30, Gb, kg, hkl]
      refine callDW_intro (c22' _ _) ?_
      have hcx : lineL l.code[i] n = lineL l.code[i] (labNo l.code l.code[i].label) := by rw [hcn]; exact lineL_cnt hok (List.getElem_mem hlt)
      rw [hcx]
      have hle := hcdl i
      have hle2 := lineL_len l.code[i] (labNo l.code l.code[i].label)
      simp -dsimp [g1, g3, g4, g7, g11, g12, g13, g14, Gb, kg]
      refine appendVW_own mkM_r0 (by simp; omega) (by simp; omega) ?_
      simp -dsimp [g1, g3, g4, g7, g11, g12, g13, g14, hnext, Gb, Sb, mkM_s0, kg]
      exact ⟨i + 1, by omega, ⟨_, rfl⟩, hend.symm, wrapS (by omega), by omega⟩
  have e1 : l.code.take i = l.code := List.take_of_length_le (by omega)
  have hcde := hcd i
  have hle := hcdl i
  rw [e1] at hcde f10
  generalize cd i = ce at hcde hle ⊢
  clear hcd hcdl
  have hz0 := amd_frz W.code
  have hz1 : rp.flatten.all AV.frzB = true := by have := int_frz (l.params.map regOf); rw [List.map_map] at this; rw [hrpe]; exact this
  have hz2 : rr.flatten.all AV.frzB = true := by have := int_frz (l.rets.map regOf); rw [List.map_map] at this; rw [hrre]; exact this
  have hWc : W.code = (l.code.flatMap fun x => lineL x (labNo l.code x.label)) ++ (if endsL l.code = true then [] else [retA]) := by rw [hW]; rfl
  have hWp : W.params = l.params.map regOf := by rw [hW]; rfl
  have hWr : W.rets = l.rets.map regOf := by rw [hW]; rfl
  have hWf : W.frame = l.frame := by rw [hW]; rfl
  have hWl : W.code.length ≤ 4 * l.code.length + 1 := by rw [hW]; exact make_len l
  have sa := fun H => sameAsm_ok W W (by omega) (by rw [hWp]; simp; omega) (by rw [hWr]; simp; omega) H
  have ma := fun H => mayAsm_ok W (by omega) (by rw [hWp]; simp; omega) (by rw [hWr]; simp; omega) H
  have mc := fun H => mayCode_ok W.code (by omega) H
  rw [show mayAsm W = true by rw [hW]; exact may_asm h0 hw] at ma
  rw [show mayA W.code = true by rw [hW]; exact may_made h0 hw] at mc
  simp only [decide_true, Asm.cells] at sa ma mc
  simp -dsimp [f1, f3, f4, f7, f10, f11]
  cases hen : endsL l.code
  have hcf : ce ++ [retA.cells] = W.code.map Amd.cells := by rw [hWc, hen, hcde]; simp
  simp -dsimp [f1, f3, f4, f7, Gb]
  refine appendVW_own mkM_r0 (by simp; omega) (by simp; omega) ?_
  rw [show ce ++ [[AV.v (Value.int .i64 20), AV.v (Value.int .i64 0), AV.v (Value.int .i64 0), AV.v (Value.int .i64 0), AV.v (Value.int .i64 0), AV.v (Value.int .i64 0), AV.v (Value.int .u64 0), AV.v (Value.int .i64 0), AV.v (Value.int .i64 0), AV.v (Value.bool false), AV.v (Value.bool false), AV.v (Value.int .i64 0), AV.v (Value.int .i64 0)]] = W.code.map Amd.cells from hcf]
  simp -dsimp [f1, f3, f4, f7, Gb, Sb, mkM_s0, G59]
  rotate_left
  have hcf : ce = W.code.map Amd.cells := by rw [hWc, hen, hcde]; simp
  rw [hcf]
  simp -dsimp [f1, f3, f4, f7, Gb, Sb, mkM_s0, G59]
  all_goals
    refine acalls_giveO (f := fun x => [.agg [Amd.sl W.code, Int.sl W.params, Int.sl W.rets, I W.frame], .agg [x, ownS (H.length + 1) rp, ownS (H.length + 2) rr, I l.frame]]) hu 0 13 69 (W.code.map Amd.cells) rfl hz0 (fun x => by simp only [AV.frz, frzL, Nat.add_zero]; rw [frz_ownS_ne (by omega), frz_ownS_ne (by omega)]) ?_
    intro x0 L0 g0 k0
    refine acalls_giveO (f := fun x => [.agg [Amd.sl W.code, Int.sl W.params, Int.sl W.rets, I W.frame], .agg [x0, x, ownS (H.length + 2) rr, I l.frame]]) hu 1 1 46 rp (k0 1 _ (by omega) rfl (under_ownB_plain hz1)) hz1 (fun x => by simp only [AV.frz, frzL]; rw [frz_ownS_ne (by omega), g0.frz]) ?_
    intro x1 L1 g1 k1
    refine acalls_giveO (f := fun x => [.agg [Amd.sl W.code, Int.sl W.params, Int.sl W.rets, I W.frame], .agg [x0, x1, x, I l.frame]]) hu 2 1 46 rr (k1 2 _ (by omega) (k0 2 _ (by omega) rfl (under_ownB_plain hz2)) (under_ownB_plain hz2)) hz2 (fun x => by simp only [AV.frz, frzL]; rw [g0.frz, g1.frz]) ?_
    intro x2 L2 g2 k2
    have hA1 : A[1]? = some (.box 59 [Amd.sl W.code, Int.sl W.params, Int.sl W.rets, I W.frame]) := by rw [hA']; rfl
    have hu59 : Blk.under H.length (.box 59 [Amd.sl W.code, Int.sl W.params, Int.sl W.rets, I W.frame]) = true := rfl
    have hL4 : L2[4]? = some (.box 59 [Amd.sl W.code, Int.sl W.params, Int.sl W.rets, I W.frame]) := by
      refine k2 4 _ (by omega) (k1 4 _ (by omega) (k0 4 _ (by omega) ?_ hu59) hu59) hu59
      simp only [List.getElem?_cons_succ]
      rw [List.getElem?_append_left (lt_of_get hA1)]; exact hA1
    refine acallsW_of (w := wit _) (acalls_weak (args' := [.agg [Amd.sl W.code, Int.sl W.params, Int.sl W.rets, I W.frame], .agg [Amd.sl W.code, Int.sl W.params, Int.sl W.rets, I W.frame]])
      (.cons (.refl _) (.cons (.aggL (.cons g0.weak (.cons ?_ (.cons ?_ (.cons ?_ .nil))))) .nil)) (sa _)) (fun e H' hq => ?_)
    · rw [hWp]; have := g1.weak; rw [hrpe] at this; rw [Int.sl, List.map_map]; exact this
    · rw [hWr]; have := g2.weak; rw [hrre] at this; rw [Int.sl, List.map_map]; exact this
    · rw [hWf]; exact .refl _
    obtain ⟨rfl, rfl⟩ := hq
    simp -dsimp [f1, f3, f4, f7, hL4]
    refine acallsW_det (ma _) ?_
    simp -dsimp [f1, f3, f4, f7, hL4]
    refine acallsW_det (mc _) ?_
    simp -dsimp [f1, f3, f4, f7, hL4]
    refine acallsW_det (kn _) ?_
    simp -dsimp
    exact leaf.out _
end Go.Proofs
