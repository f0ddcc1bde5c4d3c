/- Rows that may be empty are given away at a call's end. -/
import Derived.Test.YtganjkhdlehhdaaGreatFwOtoFwP
set_option linter.unusedVariables false
set_option linter.unusedSimpArgs false
namespace Go.Mu
theorem under_frzB (n : Nat) : ∀ (a : AV), a.frzB = true → a.under n = true
  | .v _, _ => rfl
  | .vs _ _, _ => rfl
  | .vx _ _, _ => rfl
  | .vp _, _ => rfl
  | .junk, _ => rfl
  | .ifc _ x, h => by simp only [AV.frzB] at h; simp only [AV.under]; exact under_frzB n x h
  | .agg [], _ => rfl
  | .agg (_ :: _), h => by simp [AV.frzB] at h
  | .tup _, h => by simp [AV.frzB] at h
  | .bp _ _, h => by simp [AV.frzB] at h
  | .rp _ _ _ _, h => by simp [AV.frzB] at h
  | .hs _ _ _ _, h => by simp [AV.frzB] at h
  | .hm _, h => by simp [AV.frzB] at h
  | .hg _, h => by simp [AV.frzB] at h
  | .hi _, h => by simp [AV.frzB] at h
  | .fn _ _ _, h => by simp [AV.frzB] at h
theorem underL_frzB (n : Nat) (l : List AV) (h : ∀ c ∈ l, c.frzB = true) : underL n l = true := by
  rw [underL_all, List.all_eq_true]
  exact fun c hc => under_frzB n c (h c hc)
def Gv (sz : Nat) (es : List (List AV)) (x : AV) : Prop := (x = .v (.slice none 0 0) ∧ es = []) ∨ x = .vs sz es
theorem Gv.weak {sz : Nat} {es : List (List AV)} {x : AV} (h : Gv sz es x) : Weak x (.vs sz es) := by
  rcases h with ⟨rfl, rfl⟩ | rfl
  · exact .nil sz
  · exact .refl _
theorem Gv.under {sz : Nat} {es : List (List AV)} {x : AV} (h : Gv sz es x) (n : Nat) : x.under n = true := by
  rcases h with ⟨rfl, rfl⟩ | rfl <;> rfl
theorem under_ownB_plain {t sz : Nat} {n : Nat} {es : List (List AV)} (h : es.flatten.all AV.frzB = true) : (ownB t sz es).under n = true := by
  refine under_ownB n t sz es ?_
  rw [List.all_eq_true] at h ⊢
  intro e he
  exact underL_frzB n e (fun c hc => h c (List.mem_flatten.2 ⟨e, he, hc⟩))
end Go.Mu
namespace Go.Mu
open Go.RowKit (Below)
theorem below_putObj {B : Nat} {w : World} {r : Nat} (o : Obj) (h : B ≤ r) : Below B w (w.putObj r o) := ⟨rfl, rfl, rfl, by simp, fun i hi => World.putObj_heap_other (by omega)⟩
theorem push_dfr {B : Nat} {w0 : World} {cx : Cx} (h : HRel B w0 cx) : HRel B w0 (cx.push (.deferred (some [])) (.dfr true) 0) := by
  refine hrel_push h _ _ _ ⟨?_, ?_, ?_⟩
  · show B ≤ updN _ _ _ _; simp; exact h.base
  · show ¬ cx.Φ (updN _ _ _ _); simp; exact fun hf => Nat.lt_irrefl _ (h.frz _ hf)
  · show (cx.w.alloc _).heap[updN _ _ _ _]? = _; simp only [updN_same]; exact heap_alloc_new _ _
theorem push_lp {B : Nat} {w0 : World} {cx : Cx} (h : HRel B w0 cx) {n : Nat} {f : Fr} {a : Act} (hf : FRel cx n f a) (fn : FuncId) (ps : Array Tmp) (x y : Code) (d : Nat) :
    HRel B w0 (cx.push (.loop { state := .ready, pending := none, fn := fn, tmps := a.tmps, params := ps, assign := x, body := y, defers := d }) (.lp .ready none n f ps x y) 0) := by
  refine hrel_push h _ _ _ ⟨?_, ?_, fn, a.tmps, d, ?_, hf.1, fun t ht => (hf.2 t ht).mono (le_push cx _ _ _)⟩
  · show B ≤ updN _ _ _ _; simp; exact h.base
  · show ¬ cx.Φ (updN _ _ _ _); simp; exact fun hf => Nat.lt_irrefl _ (h.frz _ hf)
  · show (cx.w.alloc _).heap[updN _ _ _ _]? = _; simp only [updN_same]; exact heap_alloc_new _ _
theorem lp_at {B : Nat} {w0 : World} {cx : Cx} (h : HRel B w0 cx) {k : Nat} {st : LoopState} {pd : Option Code} {n : Nat} {f : Fr} {ps : Array Tmp} {x y : Code} (hk : cx.H[k]? = some (.lp st pd n f ps x y)) :
    ∃ (fn : FuncId) (tmps : Array Value) (d : Nat), cx.w.heap[cx.κ k]? = some (.loop { state := st, pending := pd, fn := fn, tmps := tmps, params := ps, assign := x, body := y, defers := d }) ∧ FRel cx n f { tmps := tmps, defers := [] } ∧
      ∀ (st' : LoopState) (pd' : Option Code), Le cx (cx.put k (cx.w.putObj (cx.κ k) (.loop { state := st', pending := pd', fn := fn, tmps := tmps, params := ps, assign := x, body := y, defers := d })) (.lp st' pd' n f ps x y)) ∧
        HRel B w0 (cx.put k (cx.w.putObj (cx.κ k) (.loop { state := st', pending := pd', fn := fn, tmps := tmps, params := ps, assign := x, body := y, defers := d })) (.lp st' pd' n f ps x y)) := by
  obtain ⟨h1, h2, fn, tmps, d, h3, h4, h5⟩ := h.blk k _ hk
  refine ⟨fn, tmps, d, h3, ⟨h4, h5⟩, fun st' pd' => ?_⟩
  have hlt : cx.κ k < cx.w.heap.size := (Array.getElem?_eq_some_iff.1 h3).1
  have hw : ∀ i, i ≠ cx.κ k → i < cx.w.heap.size → (cx.w.putObj (cx.κ k) (.loop { state := st', pending := pd', fn := fn, tmps := tmps, params := ps, assign := x, body := y, defers := d })).heap[i]? = cx.w.heap[i]? := fun i hi _ => World.putObj_heap_other hi
  have hle := le_put (cx := cx) (bl := .lp st' pd' n f ps x y) (w' := cx.w.putObj (cx.κ k) (.loop { state := st', pending := pd', fn := fn, tmps := tmps, params := ps, assign := x, body := y, defers := d })) hk hw h2 (.inl ⟨rfl, rfl⟩)
  refine ⟨hle, hrel_put h hk rfl (below_putObj _ h1) hw hle ⟨h1, h2, fn, tmps, d, World.putObj_heap_same hlt, h4, fun t ht => (h5 t ht).mono hle⟩⟩
theorem dfr_at {B : Nat} {w0 : World} {cx : Cx} (h : HRel B w0 cx) {k : Nat} (hk : cx.H[k]? = some (.dfr true)) :
    cx.w.heap[cx.κ k]? = some (.deferred (some [])) ∧ Le cx (cx.put k (cx.w.putObj (cx.κ k) (.deferred none)) (.dfr false)) ∧ HRel B w0 (cx.put k (cx.w.putObj (cx.κ k) (.deferred none)) (.dfr false)) := by
  obtain ⟨h1, h2, h3⟩ := h.blk k _ hk
  have hlt : cx.κ k < cx.w.heap.size := (Array.getElem?_eq_some_iff.1 h3).1
  have hw : ∀ i, i ≠ cx.κ k → i < cx.w.heap.size → (cx.w.putObj (cx.κ k) (.deferred none)).heap[i]? = cx.w.heap[i]? := fun i hi _ => World.putObj_heap_other hi
  have hle := le_put (cx := cx) (bl := .dfr false) (w' := cx.w.putObj (cx.κ k) (.deferred none)) hk hw h2 (.inl ⟨rfl, rfl⟩)
  exact ⟨h3, hle, hrel_put h hk rfl (below_putObj _ h1) hw hle ⟨h1, h2, World.putObj_heap_same hlt⟩⟩
def updL : Fr → List Nat → List AV → Fr
  | f, t :: ts, a :: as' => updL (upd f t a) ts as'
  | f, _, _ => f
@[simp] theorem updL_nil (f : Fr) (as' : List AV) : updL f [] as' = f := by cases as' <;> rfl
@[simp] theorem updL_cons (f : Fr) (t : Nat) (ts : List Nat) (a : AV) (as' : List AV) : updL f (t :: ts) (a :: as') = updL (upd f t a) ts as' := rfl
theorem frel_updL {cx : Cx} {n : Nat} : ∀ (ts : List Nat) (avs : List AV) (vals : List Value) (f : Fr) (tmps : Array Value), FRel cx n f { tmps := tmps, defers := [] } → RepL cx false avs vals →
    FRel cx n (updL f ts avs) { tmps := (ts.zip vals).foldl (fun tmps (t, a) => tmps.setIfInBounds t a) tmps, defers := [] }
  | [], avs, vals, f, tmps, h, _ => by simpa using h
  | t :: ts, [], vals, f, tmps, h, hr => by obtain rfl := hr.nil_inv; simpa [updL] using h
  | t :: ts, c :: cs, vals, f, tmps, h, hr => by
    obtain ⟨v, vs, rfl, h1, h2⟩ := hr.cons_inv
    simp only [updL_cons, List.zip_cons_cons, List.foldl_cons]
    refine frel_updL ts cs vs _ _ ⟨by simpa using h.1, fun s hs => ?_⟩ h2
    simp only [upd]
    have hsz : tmps.size = n := h.1
    by_cases he : s = t
    · subst he
      rw [if_pos rfl, Array.getD_eq_getD_getElem?, Array.getElem?_setIfInBounds_self_of_lt (by omega)]; exact h1
    · rw [if_neg he, Array.getD_eq_getD_getElem?, Array.getElem?_setIfInBounds_ne (fun e => he e.symm), ← Array.getD_eq_getD_getElem?]; exact h.2 s hs
def jumpOf : AX → Option Code
  | .ret => some .ret
  | .exit id => some (.exit id)
  | .goto l => some (.goto l)
  | _ => none
def ARound (P : Program) (n : Nat) (k : Nat) (x y : Code) (ps : Array Tmp) (f f0 : Fr) (M : List Blk) (R : AX → List Blk → Prop) : Prop :=
  AWP P n x (fun e f1 M1 ds1 => e = .normal ∧ ds1 = [] ∧ M1[k]? = some (.lp .ready none n f0 ps x y) ∧
    AWP P n y (fun e f2 M2 ds2 => ds2 = [] ∧ M2[k]? = some (.lp .busy none n f0 ps x y) ∧ (match e with | .pan _ => False | e => R e M2)) f1 (M1.set k (.lp .busy none n f0 ps x y)) []) f M []
theorem ayield_of {P : Program} {n k : Nat} {x y : Code} {ps : Array Tmp} {f0 : Fr} {M : List Blk} {args : List AV} {R : AE → List Blk → Prop} (hk : M[k]? = some (.lp .ready none n f0 ps x y)) (hnd : (noDefC x && noDefC y) = true) (hps : args.length = ps.size)
    (h : ARound P n k x y ps (updL f0 ps.toList args) f0 M (fun e M2 => match e with
      | .normal => R (.ret (.v (.bool true))) (M2.set k (.lp .ready none n f0 ps x y))
      | e => R (.ret (.v (.bool false))) (M2.set k (.lp .done (jumpOf e) n f0 ps x y)))) : AYield P k M args R := by
  intro B w0 cx vals h1 h2 h3
  simp only [Bool.and_eq_true] at hnd
  obtain ⟨fn, tmps, d, hh, hfr, -⟩ := lp_at h1 (h2 ▸ hk)
  have hsz : vals.toArray.size = ps.size := by have := h3.len; simp; omega
  refine ⟨fn, _, x, y, run_yield hh hsz, ?_⟩
  have hfr' := frel_updL ps.toList args vals f0 tmps hfr h3
  have hz : (ps.zip vals.toArray).foldl (fun tmps (t, a) => tmps.setIfInBounds t a) tmps = (ps.toList.zip vals).foldl (fun tmps (t, a) => tmps.setIfInBounds t a) tmps := by
    rw [← Array.foldl_toList, Array.toList_zip]
  simp only at hz ⊢
  rw [hz]
  refine roundIn_of_wpIn (F := Fo none) (n := 0) trivial ?_
  refine wpIn_mono (h (some (cx.κ k)) (fun _ => hnd.1) B w0 cx cx _ h1 (Le.refl _) h2 hfr' trivial) fun e a1 w1 hp => ?_
  obtain ⟨cx1, ax, f1, ds1, rfl, b1, b2, b3, b4, b5, rfl, rfl, b6, b7⟩ := hp
  cases e <;> try exact b5.elim
  obtain ⟨fn1, tmps1, d1, hh1, -, hput⟩ := lp_at b1 b6
  have hκ : cx1.κ k = cx.κ k := by obtain ⟨_, _, _, e⟩ := b2.fixed k _ (h2 ▸ hk) rfl; exact e
  obtain ⟨hle2, hrel2⟩ := hput .busy none
  have d1n : a1.defers = [] := by
    cases hdd : a1.defers with
    | nil => rfl
    | cons d l => rw [hdd] at b4; exact b4.elim
  rw [hκ] at hh1 hle2 hrel2
  refine ⟨_, run_beginRound hh1 rfl, ?_⟩
  refine wpIn_mono (b7 (some (cx.κ k)) (fun _ => hnd.2) B w0 cx _ a1 hrel2 (b2.trans hle2) rfl (b3.mono hle2) (by rw [d1n]; trivial)) fun e a2 w2 hp => ?_
  obtain ⟨cx2, ax, f2, ds2, rfl, c1, c2, c3, c4, c5, c6, c7, c8⟩ := hp
  obtain ⟨fn2, tmps2, d2, hh2, -, hput2⟩ := lp_at c1 c7
  have hκ2 : cx2.κ k = cx.κ k := by obtain ⟨_, _, _, e⟩ := c2.fixed k _ (h2 ▸ hk) rfl; exact e
  have fin : ∀ (jump : Option Code) (st : LoopState), st = (if jump.isNone then .ready else .done) → R (.ret (.v (.bool jump.isNone))) (cx2.H.set k (.lp st jump n f0 ps x y)) → ∃ v w', (Instr.endRound (cx.κ k) jump).run P cx2.w = .ok v w' ∧ EndRel B w0 cx R (.returned v) w' := by
    intro jump st hst hR
    obtain ⟨hle3, hrel3⟩ := hput2 st jump
    rw [hκ2] at hh2 hle3 hrel3
    refine ⟨_, _, run_endRound jump hh2, cx2.put k _ _, .v (.bool jump.isNone), ?_, hrel3, c2.trans hle3, .v _, hR⟩
    rw [hst]; rfl
  cases e <;> cases ax <;> first | exact c5.elim | exact c8.elim | skip
  · exact fin none .ready rfl c8
  · obtain rfl : _ = _ := c5; exact fin (some (.exit _)) .done rfl c8
  · obtain rfl : _ = _ := c5; exact fin (some (.goto _)) .done rfl c8
  · exact fin (some .ret) .done rfl c8
theorem awp_rangeFunc {P : Program} {n : Nat} {g : Operand} {ps : Array Tmp} {x y : Code} {Q : AQ} {f : Fr} {H : List Blk} {ds : List ADef} {it : FuncId} {cap : List AV} (hgo : opOk n g = true) (hg : ev f g = .fn (.func it) [] cap) (hok : okFn P it = true)
    (h : ACalls P it (.yl (H.length + 1) :: cap) (H ++ [.dfr true, .lp .ready none n f ps x y]) (fun e M => ∃ r, e = .ret r ∧ ∃ (st : LoopState) (e : AX), M[H.length + 1]? = some (.lp st (jumpOf e) n f ps x y) ∧ st ≠ .busy ∧ M[H.length]? = some (.dfr true) ∧
      (match e with | .pan _ => False | e => Q e f (M.set (H.length + 1) (.lp .exhausted (jumpOf e) n f ps x y)) (⟨0, [], some H.length⟩ :: ds)))) : AWP P n (.rangeFunc g ps x y) Q f H ds := by
  intro ro hro B w0 cx0 cx a h1 h2 h3 h4 h5
  subst h3
  cases ro with
  | some l => have := hro rfl; simp [noDefC] at this
  | none =>
  have hgr := ev_rep h4 hgo
  rw [hg] at hgr
  generalize hy : a.eval g = gv at hgr
  cases hgr with
  | fn _ _ _ vf vc hnf hrf hnc hrc =>
  obtain rfl : vf = [] := List.eq_nil_of_length_eq_zero hnf.symm
  refine wpIn_rangeFunc fun fn _ => ?_
  have hrel1 := push_lp (push_dfr h1) (h4.mono (le_push cx (.deferred (some [])) (.dfr true) 0)) fn ps x y cx.w.heap.size
  have hle1 := (le_push cx (.deferred (some [])) (.dfr true) 0).trans (le_push (cx.push (.deferred (some [])) (.dfr true) 0) (.loop { state := .ready, pending := none, fn := fn, tmps := a.tmps, params := ps, assign := x, body := y, defers := cx.w.heap.size }) (.lp .ready none n f ps x y) 0)
  generalize hcx1 : (cx.push (.deferred (some [])) (.dfr true) 0).push (.loop { state := .ready, pending := none, fn := fn, tmps := a.tmps, params := ps, assign := x, body := y, defers := cx.w.heap.size }) (.lp .ready none n f ps x y) 0 = cx1 at hrel1 hle1
  have hw1 : cx1.w = (cx.w.alloc (.deferred (some []))).alloc (.loop { state := .ready, pending := none, fn := fn, tmps := a.tmps, params := ps, assign := x, body := y, defers := cx.w.heap.size }) := by rw [← hcx1]; rfl
  have hH1 : cx1.H = cx.H ++ [.dfr true, .lp .ready none n f ps x y] := by rw [← hcx1]; simp [Cx.push]
  have hk1 : cx1.κ (cx.H.length + 1) = cx.w.heap.size + 1 := by rw [← hcx1]; simp [Cx.push]
  have hk0 : cx1.κ cx.H.length = cx.w.heap.size := by rw [← hcx1]; simp [Cx.push, updN]
  have hyl : Rep cx1 false (.yl (cx.H.length + 1)) (.func (.yield (cx.w.heap.size + 1)) #[] #[]) := by
    have := Rep.yl (cx := cx1) (cx.H.length + 1) (.lp .ready none n f ps x y) (by rw [hH1]; simp) rfl
    rwa [hk1] at this
  have hargs : RepL cx1 false (.yl (cx.H.length + 1) :: cap) (.func (.yield (cx.w.heap.size + 1)) #[] #[] :: vc) := ((RepL.mk hnc hrc).mono hle1).cons hyl
  refine ⟨cx.w.heap.size + 1, [{ target := .collected cx.w.heap.size, args := #[] }], cx1.w, { target := .fn (.func it) vc.toArray, args := #[.func (.yield (cx.w.heap.size + 1)) #[] #[]] }, cx1.w, it,
    (Value.func (.yield (cx.w.heap.size + 1)) #[] #[] :: vc).toArray, cx1.w, ?_, ?_, fun _ _ => trivial, ?_, fun hd => (by cases hd), ?_⟩
  · rw [hw1]; exact run_enterLoop_outer _ _ _ _ _
  · simp only [resolve, hy]
    simp [go_sem]
  · unfold okFn at hok
    split at hok
    · rename_i fnn hfn
      simp only [Bool.and_eq_true, Bool.not_eq_true', Option.isSome_iff_exists] at hok
      obtain ⟨⟨bd, hbd⟩, hnm⟩ := hok
      have hbn : fnn.body.isNone = false := by rw [hbd]; rfl
      simp only [Sem.run_bind, Sem.run_pure, Result.andThen_ok, invoke, callFunc, run_program, hfn, hnm, Bool.false_eq_true, if_false, hbn]
      congr 2
      apply Array.ext'
      simp
    · cases hok
  · refine (fo_calls.2 (h B w0 cx1 _ hrel1 hH1 hargs)).mono fun e w' he => ?_
    cases e with
    | outgrown => exact he.elim
    | panicked ch => obtain ⟨_, _, _, _, _, _, _, _, r, hr, _⟩ := he; cases hr
    | returned v =>
      obtain ⟨cx', r, rfl, b1, b2, b3, r', hr, st, ax, c1, c2, c3, c4⟩ := he
      obtain ⟨fn', tmps', d', hh, -, hput⟩ := lp_at b1 c1
      have hκ : cx'.κ (cx.H.length + 1) = cx.w.heap.size + 1 := by
        obtain ⟨_, _, _, e⟩ := b2.fixed (cx.H.length + 1) (.lp .ready none n f ps x y) (by rw [hH1]; simp) rfl
        rw [e, hk1]
      have hκ0 : cx'.κ cx.H.length = cx.w.heap.size := by
        obtain ⟨_, _, _, e⟩ := b2.fixed cx.H.length (.dfr true) (by rw [hH1]; simp) rfl
        rw [e, hk0]
      obtain ⟨hle3, hrel3⟩ := hput .exhausted (jumpOf ax)
      rw [hκ] at hh hle3 hrel3
      refine ⟨jumpOf ax, _, run_endLoop hh c2, ?_⟩
      have hle : Le cx0 (cx'.put (cx.H.length + 1) (cx'.w.putObj (cx.w.heap.size + 1) (.loop { state := .exhausted, pending := jumpOf ax, fn := fn', tmps := tmps', params := ps, assign := x, body := y, defers := d' })) (.lp .exhausted (jumpOf ax) n f ps x y)) := h2.trans (hle1.trans (b2.trans hle3))
      have hlef := hle1.trans (b2.trans hle3)
      have hdr : DRel (cx'.put (cx.H.length + 1) (cx'.w.putObj (cx.w.heap.size + 1) (.loop { state := .exhausted, pending := jumpOf ax, fn := fn', tmps := tmps', params := ps, assign := x, body := y, defers := d' })) (.lp .exhausted (jumpOf ax) n f ps x y)) (⟨0, [], some cx.H.length⟩ :: ds) ([{ target := .collected cx.w.heap.size, args := #[] }] ++ a.defers) :=
        ⟨⟨by show Target.collected _ = Target.collected (cx'.κ cx.H.length); rw [hκ0], .dfr true, by show (cx'.H.set _ _)[_]? = _; rw [List.getElem?_set_ne (by omega)]; exact c3, rfl⟩, h5.mono hlef⟩
      have hfr : FRel (cx'.put (cx.H.length + 1) (cx'.w.putObj (cx.w.heap.size + 1) (.loop { state := .exhausted, pending := jumpOf ax, fn := fn', tmps := tmps', params := ps, assign := x, body := y, defers := d' })) (.lp .exhausted (jumpOf ax) n f ps x y)) n f { a with defers := [{ target := .collected cx.w.heap.size, args := #[] }] ++ a.defers } := h4.mono hlef
      cases ax with
      | normal => exact ⟨_, .normal, f, _, rfl, hrel3, hle, hfr, hdr, trivial, c4⟩
      | exit id => exact wpIn_exit ⟨_, .exit id, f, _, rfl, hrel3, hle, hfr, hdr, rfl, c4⟩
      | goto l => exact wpIn_goto ⟨_, .goto l, f, _, rfl, hrel3, hle, hfr, hdr, rfl, c4⟩
      | ret => exact wpIn_ret ⟨_, .ret, f, _, rfl, hrel3, hle, hfr, hdr, trivial, c4⟩
      | pan x => exact c4.elim
end Go.Mu
namespace Go.Mu
def AYieldW (P : Program) (k : Nat) (H : List Blk) (args : List AV) (R : AE → List Blk → Prop) (_ : Wit R) : Prop := AYield P k H args R
@[simp] theorem callVW_yl {P : Program} {H : List Blk} (k : Nat) (args : List AV) (K pan : AV → List Blk → Prop) (w : Wit K) (w' : Wit pan) : callVW P H (.yl k) args K pan w w' = AYieldW P k H args (callK K pan) (wit _) := (rfl)
theorem ayieldW_of {P : Program} {k : Nat} {H : List Blk} {args : List AV} {R R' : AE → List Blk → Prop} {w : Wit R} (h : AYield P k H args R') (hr : ∀ e H', R' e H' → R e H') : AYieldW P k H args R w := h.mono hr
def leavesM (P : Program) (rs : List ResultVar) (R : AE → List Blk → Prop) (f : Fr) : List ADef → List Blk → Prop
  | [], H => bindO (resAll P H f rs) fun xs => R (.ret (resTup xs)) H
  | d :: ds, H => match d.mark with
    | some k => andV (H[k]? = some (.dfr true)) (leavesM P rs R f ds (H.set k (.dfr false)))
    | none => False
def retQM (P : Program) (rs : List ResultVar) (R : AE → List Blk → Prop) : AQ := fun x f H ds =>
  match x with
  | .normal => leavesM P rs R f ds H
  | .ret => leavesM P rs R f ds H
  | _ => False
theorem leavesM_sound {P : Program} {fn : Func} {n : Nat} {rs : List ResultVar} (hrs : fn.results.toList = rs) (hok : rs.all (resOk n) = true) {R : AE → List Blk → Prop} {f : Fr} : ∀ {ds : List ADef} {H : List Blk} {B : Nat} {w0 : World} {cx0 cx : Cx} {a : Act} {es : List Deferred},
    leavesM P rs R f ds H → HRel B w0 cx → Le cx0 cx → cx.H = H → FRel cx n f a → DRel cx ds es → LeavesInM (Fo none) 0 P fn a.tmps (EndRel B w0 cx0 R) es .returning cx.w
  | [], H, B, w0, cx0, cx, a, es, h, h1, h2, h3, h4, h5 => by
    subst h3
    cases es with
    | cons => exact h5.elim
    | nil =>
      obtain ⟨xs, hx, hR⟩ := h
      obtain ⟨y, hy, hr⟩ := results_rep (P := P) (fn := fn) h1 h4 (by rw [hrs]; exact hok) (by rw [hrs]; exact hx)
      exact ⟨y, hy, cx, _, rfl, h1, h2, hr, hR⟩
  | d :: ds, H, B, w0, cx0, cx, a, es, h, h1, h2, h3, h4, h5 => by
    subst h3
    cases es with
    | nil => exact h5.elim
    | cons e es =>
      obtain ⟨h51, h52⟩ := h5
      cases hm : d.mark with
      | none => simp only [leavesM, hm] at h
      | some k =>
        simp only [leavesM, hm] at h
        rw [hm] at h51
        obtain ⟨ht, -⟩ := h51
        obtain ⟨hk, hl⟩ := h
        obtain ⟨hh, hle, hrel⟩ := dfr_at h1 hk
        exact ⟨by simp, .inl ⟨_, _, ht, run_takeDeferred hh, leavesM_sound (cx := cx.put k _ _) hrs hok hl hrel (h2.trans hle) rfl (h4.mono hle) (h52.mono hle)⟩⟩
theorem acalls_of_vcM {P : Program} {hn : Nat → Bool} {od : Nat → Option OPlan} {fid : FuncId} {fn : Func} {c : Code} {args : List AV} {H : List Blk} {R : AE → List Blk → Prop} (hf : P.funcs[fid]? = some fn) (hb : fn.body = some c)
    (hs : (smallC hn od fn.ntmps c && fn.results.toList.all (resOk fn.ntmps) && decide (args.length ≤ fn.ntmps) && P.follows .mixedOrders) = true)
    (h : vcC P hn od fn.ntmps c (retQM P fn.results.toList R) (frm args 0) H []) : ACalls P fid args H R := by
  simp only [Bool.and_eq_true, decide_eq_true_eq] at hs
  obtain ⟨⟨⟨hs1, hs2⟩, hs3⟩, hm⟩ := hs
  intro B w0 cx vals h1 h2 h3
  refine fo_calls.1 (callsIn_of_wp_marks (F := Fo none) (n := 0) hf hb trivial ?_)
  refine wpIn_mono (vcC_sound hm hs1 h none (fun hs => by cases hs) B w0 cx cx _ h1 (Le.refl _) h2 (frm_rel h3 hs3) trivial) fun e a' w' hp => ?_
  obtain ⟨cx', x, f', ds', rfl, b1, b2, b3, b4, b5, b6⟩ := hp
  cases e <;> cases x <;> first | exact b5.elim | exact b6.elim | skip
  · exact leavesM_sound rfl hs2 b6 b1 b2 rfl b3 b4
  · exact leavesM_sound rfl hs2 b6 b1 b2 rfl b3 b4
def leavesMW (P : Program) (rs : List ResultVar) (R : AE → List Blk → Prop) (ds : List ADef) (f : Fr) (H : List Blk) (_ : Wit (rs, R, f)) : Prop := leavesM P rs R f ds H
@[simp ↓] theorem QW_retMR (P : Program) (rs : List ResultVar) (R : AE → List Blk → Prop) (f : Fr) (H : List Blk) (ds : List ADef) (w : Wit (retQM P rs R, AX.ret, f, H, ds)) : QW (retQM P rs R) .ret f H ds w = leavesMW P rs R ds f H (wit _) := (rfl)
@[simp ↓] theorem leavesMW_nil (P : Program) (rs : List ResultVar) (R : AE → List Blk → Prop) (f : Fr) (H : List Blk) (w : Wit (rs, R, f)) : leavesMW P rs R [] f H w = bindOW (resW P H rs f (wit _)) (fun xs => bindVW (resTup xs) (fun x => R (.ret x) H) (wit _)) (wit _) := (rfl)
@[simp ↓] theorem leavesMW_cons (P : Program) (rs : List ResultVar) (R : AE → List Blk → Prop) (g k : Nat) (l : List AV) (ds : List ADef) (f : Fr) (H : List Blk) (w : Wit (rs, R, f)) : leavesMW P rs R (⟨g, l, some k⟩ :: ds) f H w = andVW (H[k]? = some (.dfr true)) (leavesMW P rs R ds f (H.set k (.dfr false)) (wit _)) (wit _) := (rfl)
def ASeq (P : Program) (it : FuncId) (cap : List AV) (xs : List (List AV)) (base : Nat) (inv : List Blk → Prop) : Prop :=
  ∀ (k : Nat) (J : Nat → List Blk → Prop) (Jx : List Blk → Prop), (∀ i A, J i A → A.length = base ∧ inv A) →
    (∀ i A B x, xs[i]? = some x → J i A → AYield P k (A ++ B) x (fun e M => ∃ A' C, M = A' ++ B ++ C ∧ ((e = .ret (.v (.bool true)) ∧ J (i + 1) A') ∨ (e = .ret (.v (.bool false)) ∧ Jx A')))) →
    ∀ A, J 0 A → ACalls P it (.yl k :: cap) A (fun e M => ∃ r A' C, e = .ret r ∧ M = A' ++ C ∧ (J xs.length A' ∨ Jx A'))
def roundQ1 (K : Fr → List Blk → Prop) : AQ := fun ex f M ds => ex = .normal ∧ ds = [] ∧ K f M
def roundQ2 (K : AX → List Blk → Prop) : AQ := fun ex f M ds => ds = [] ∧ (match ex with | .pan _ => False | ex => K ex M)
@[simp ↓] theorem QW_round1 (K : Fr → List Blk → Prop) (f : Fr) (H : List Blk) (w : Wit (roundQ1 K, AX.normal, f, H, ([] : List ADef))) : QW (roundQ1 K) .normal f H [] w = K f H := by simp [QW, roundQ1]
@[simp ↓] theorem QW_round2N (K : AX → List Blk → Prop) (f : Fr) (H : List Blk) (w : Wit (roundQ2 K, AX.normal, f, H, ([] : List ADef))) : QW (roundQ2 K) .normal f H [] w = K .normal H := by simp [QW, roundQ2]
@[simp ↓] theorem QW_round2R (K : AX → List Blk → Prop) (f : Fr) (H : List Blk) (w : Wit (roundQ2 K, AX.ret, f, H, ([] : List ADef))) : QW (roundQ2 K) .ret f H [] w = K .ret H := by simp [QW, roundQ2]
def RoundEnd (J : List Blk → Prop) (Jx : AX → List Blk → Prop) (B : List Blk) (ex : AX) (M : List Blk) : Prop := ∃ A C, M = A ++ (B ++ C) ∧ (match ex with | .normal => J A | ex => Jx ex A)
theorem roundEnd_of {J : List Blk → Prop} {Jx : AX → List Blk → Prop} {B : List Blk} {ex : AX} (A C : List Blk) {M : List Blk} (hM : M = A ++ (B ++ C)) (h : match ex with | .normal => J A | ex => Jx ex A) : RoundEnd J Jx B ex M := ⟨A, C, hM, h⟩
theorem awpW_of_vc {P : Program} {hn : Nat → Bool} {od : Nat → Option OPlan} {n : Nat} {c : Code} {Q : AQ} {f : Fr} {H : List Blk} {ds : List ADef} {w : Wit (n, c, Q, f, H, ds)} (hs : (P.follows .mixedOrders && smallC hn od n c) = true) (h : vcCW P hn od n c Q f H ds (wit _)) : AWPW P n c Q f H ds w := by
  simp only [Bool.and_eq_true] at hs
  exact vcC_sound hs.1 hs.2 h
theorem awp_range {P : Program} {n : Nat} {g : Operand} {ps : Array Tmp} {x y : Code} {Q : AQ} {f : Fr} {H : List Blk} {ds : List ADef} {it : FuncId} {cap : List AV} {w : Wit (n, Code.rangeFunc g ps x y, Q, f, H, ds)}
    (xs : List (List AV)) (inv : List Blk → Prop) (J : Nat → List Blk → Prop) (Jx : AX → List Blk → Prop)
    (hgo : (opOk n g && noDefC x && noDefC y && okFn P it) = true) (hg : ev f g = .fn (.func it) [] cap) (hps : ∀ e ∈ xs, e.length = ps.size)
    (hseq : ASeq P it cap xs (H.length + 2) (fun A => ∃ A0 b, A = A0 ++ b ∧ A0.length = H.length ∧ inv A0)) (h0 : J 0 H) (hJ : ∀ i A, J i A → A.length = H.length ∧ inv A) (hJx : ∀ e A, Jx e A → A.length = H.length)
    (round : ∀ i A B e, xs[i]? = some e → J i A → AWPW P n x (roundQ1 fun f1 M1 => M1 = A ++ B ∧ ∀ B', AWPW P n y (roundQ2 (RoundEnd (J (i + 1)) Jx B')) f1 (A ++ B') [] (wit _)) (updL f ps.toList e) (A ++ B) [] (wit _))
    (fin : ∀ A C, J xs.length A → QW Q .normal f (A ++ .dfr true :: C) (⟨0, [], some H.length⟩ :: ds) (wit _))
    (finx : ∀ ex A C, Jx ex A → ex ≠ .normal → (∀ z, ex ≠ .pan z) → QW Q ex f (A ++ .dfr true :: C) (⟨0, [], some H.length⟩ :: ds) (wit _)) : AWPW P n (.rangeFunc g ps x y) Q f H ds w := by
  simp only [Bool.and_eq_true] at hgo
  refine awp_rangeFunc hgo.1.1.1 hg hgo.2 ?_
  have base := hseq (H.length + 1) (fun i M => ∃ A, M = A ++ [.dfr true, .lp .ready none n f ps x y] ∧ J i A) (fun M => ∃ ex A, M = A ++ [.dfr true, .lp .done (jumpOf ex) n f ps x y] ∧ Jx ex A ∧ ex ≠ .normal ∧ ∀ z, ex ≠ .pan z) ?_ ?_
    (H ++ [.dfr true, .lp .ready none n f ps x y]) ⟨H, rfl, h0⟩
  · refine base.mono fun e M he => ?_
    obtain ⟨r, A', C, rfl, rfl, ⟨A, rfl, hA⟩ | ⟨ex, A, rfl, hA, hne, hnp⟩⟩ := he
    · have hl := (hJ _ _ hA).1
      refine ⟨r, rfl, .ready, .normal, ?_, by simp, ?_, ?_⟩
      · rw [← hl]; simp [jumpOf]
      · rw [← hl]; simp
      · have := fin A (.lp .exhausted none n f ps x y :: C) hA
        simp only
        rw [← hl] at this ⊢
        simpa [jumpOf, QW] using this
    · have hl := hJx _ _ hA
      refine ⟨r, rfl, .done, ex, ?_, by simp, ?_, ?_⟩
      · rw [← hl]; simp
      · rw [← hl]; simp
      · have := finx ex A (.lp .exhausted (jumpOf ex) n f ps x y :: C) hA hne hnp
        rw [← hl] at this ⊢
        cases ex with
        | normal => exact absurd rfl hne
        | pan z => exact absurd rfl (hnp z)
        | _ => simpa [QW] using this
  · rintro i M ⟨A, rfl, hA⟩
    have := hJ i A hA
    exact ⟨by simp [this.1], A, _, rfl, this.1, this.2⟩
  · rintro i M B e he ⟨A, rfl, hA⟩
    have hl := (hJ i A hA).1
    have hke : e.length = ps.size := hps e (List.mem_of_getElem? he)
    have hget : ∀ (A C : List Blk) (z u : Blk), A.length = H.length → (A ++ z :: u :: C)[H.length + 1]? = some u := by
      intro A C z u hh; rw [← hh]; simp
    have hset : ∀ (A C : List Blk) (z u u' : Blk), A.length = H.length → (A ++ z :: u :: C).set (H.length + 1) u' = A ++ z :: u' :: C := by
      intro A C z u u' hh; rw [← hh]; simp
    have hM : A ++ [.dfr true, .lp .ready none n f ps x y] ++ B = A ++ .dfr true :: .lp .ready none n f ps x y :: B := by simp
    rw [hM]
    refine ayield_of (hget _ _ _ _ hl) (by simp [hgo.1.1.2, hgo.1.2]) hke ?_
    refine AWP.mono (round i A (.dfr true :: .lp .ready none n f ps x y :: B) e he hA) fun ex f1 M1 ds1 h1 => ?_
    obtain ⟨rfl, rfl, rfl, h2⟩ := h1
    refine ⟨rfl, rfl, hget _ _ _ _ hl, ?_⟩
    rw [hset _ _ _ _ _ hl]
    refine AWP.mono (h2 (.dfr true :: .lp .busy none n f ps x y :: B)) fun ex f2 M2 ds2 h3 => ?_
    obtain ⟨rfl, h3⟩ := h3
    have hx0 : (∀ z, ex ≠ .pan z) ∧ RoundEnd (J (i + 1)) Jx (.dfr true :: .lp .busy none n f ps x y :: B) ex M2 := by
      cases ex with
      | pan z => exact h3.elim
      | _ => exact ⟨by simp, h3⟩
    obtain ⟨hnp, A', C, rfl, hx⟩ := hx0
    have hM2 : A' ++ ((.dfr true :: .lp .busy none n f ps x y :: B) ++ C) = A' ++ .dfr true :: .lp .busy none n f ps x y :: (B ++ C) := by simp
    rw [hM2]
    have hl' : A'.length = H.length := by
      cases ex with
      | normal => exact (hJ _ _ hx).1
      | _ => exact hJx _ _ hx
    refine ⟨rfl, hget _ _ _ _ hl', ?_⟩
    cases ex with
    | normal => exact ⟨A' ++ [.dfr true, .lp .ready none n f ps x y], C, by rw [hset _ _ _ _ _ hl']; simp, .inl ⟨rfl, A', rfl, hx⟩⟩
    | pan z => exact absurd rfl (hnp z)
    | ret => exact ⟨A' ++ [.dfr true, .lp .done (jumpOf .ret) n f ps x y], C, by rw [hset _ _ _ _ _ hl']; simp, .inr ⟨rfl, _, A', rfl, hx, by simp, by simp⟩⟩
    | exit id => exact ⟨A' ++ [.dfr true, .lp .done (jumpOf (.exit id)) n f ps x y], C, by rw [hset _ _ _ _ _ hl']; simp, .inr ⟨rfl, _, A', rfl, hx, by simp, by simp⟩⟩
    | goto l => exact ⟨A' ++ [.dfr true, .lp .done (jumpOf (.goto l)) n f ps x y], C, by rw [hset _ _ _ _ _ hl']; simp, .inr ⟨rfl, _, A', rfl, hx, by simp, by simp⟩⟩
end Go.Mu
namespace Go.Mu
section
variable {P : Program} {hn : Nat → Bool} {od : Nat → Option OPlan}
theorem acalls_of_awp {fid : FuncId} {fn : Func} {c : Code} {args : List AV} {H : List Blk} {R : AE → List Blk → Prop} (hf : P.funcs[fid]? = some fn) (hb : fn.body = some c)
    (hs : (fn.results.toList.all (resOk fn.ntmps) && decide (args.length ≤ fn.ntmps)) = true)
    (h : AWP P fn.ntmps c (retQ P fn.results.toList R) (frm args 0) H []) : ACalls P fid args H R := by
  simp only [Bool.and_eq_true, decide_eq_true_eq] at hs
  obtain ⟨hs2, hs3⟩ := hs
  intro B w0 cx vals h1 h2 h3
  refine calls_of_wp hf hb ?_
  refine wp_mono (fo_wp.1 (h none (fun hs => by cases hs) B w0 cx cx _ h1 (Le.refl _) h2 (frm_rel h3 hs3) trivial)) fun e a' w' hp => ?_
  obtain ⟨cx', x, f', ds', rfl, b1, b2, b3, b4, b5, b6⟩ := hp
  have dnil : ds' = [] → a'.defers = [] := fun hd => by
    subst hd
    cases hdd : a'.defers with
    | nil => rfl
    | cons d l => rw [hdd] at b4; exact b4.elim
  cases e <;> cases x <;> first | exact b5.elim | skip
  · obtain ⟨hd, xs, hx, hR⟩ := b6
    obtain ⟨y, hy, hr⟩ := results_rep (P := P) b1 b3 hs2 hx
    exact ⟨dnil hd, y, hy, cx', _, rfl, b1, b2, hr, hR⟩
  · exact b6.elim
  · exact b6.elim
  · obtain ⟨hd, xs, hx, hR⟩ := b6
    obtain ⟨y, hy, hr⟩ := results_rep (P := P) b1 b3 hs2 hx
    exact ⟨dnil hd, y, hy, cx', _, rfl, b1, b2, hr, hR⟩
  · obtain ⟨hd, hR⟩ := b6
    obtain ⟨y, hch, hr⟩ := b5
    exact ⟨dnil hd, cx', _, y, rfl, b1, b2, hch, hr, hR⟩
def cutQ (I : Fr → List Blk → Prop) (ds : List ADef) (Q : AQ) : AQ := fun x f H ds' => match x with | .normal => ds' = ds ∧ I f H | x => Q x f H ds'
theorem awp_cut {n : Nat} {a b : Code} {Q : AQ} {f : Fr} {H : List Blk} {ds : List ADef} (hn : Nat → Bool) (od : Nat → Option OPlan) (I : Fr → List Blk → Prop) (hs : (smallC hn od n a && P.follows .mixedOrders) = true)
    (h1 : vcC P hn od n a (cutQ I ds Q) f H ds) (h2 : ∀ f H, I f H → AWP P n b Q f H ds) : AWP P n (.seq a b) Q f H ds := by
  simp only [Bool.and_eq_true] at hs
  refine awp_seq ((vcC_sound hs.2 hs.1 h1).mono fun x f H ds' hx => ?_)
  cases x with
  | normal => obtain ⟨rfl, hI⟩ := hx; exact h2 f H hI
  | _ => exact hx
theorem awp_cutA {n : Nat} {a b : Code} {Q : AQ} {f : Fr} {H : List Blk} {ds : List ADef} (I : Fr → List Blk → Prop)
    (h1 : AWP P n a (cutQ I ds Q) f H ds) (h2 : ∀ f H, I f H → AWP P n b Q f H ds) : AWP P n (.seq a b) Q f H ds := by
  refine awp_seq (h1.mono fun x f H ds' hx => ?_)
  cases x with
  | normal => obtain ⟨rfl, hI⟩ := hx; exact h2 f H hI
  | _ => exact hx
theorem awp_all {n : Nat} {a : Code} {Q : AQ} {f : Fr} {H : List Blk} {ds : List ADef} (hn : Nat → Bool) (od : Nat → Option OPlan) (hs : (smallC hn od n a && P.follows .mixedOrders) = true)
    (h1 : vcC P hn od n a Q f H ds) : AWP P n a Q f H ds := by
  simp only [Bool.and_eq_true] at hs
  exact vcC_sound hs.2 hs.1 h1
theorem awp_loopI {n : Nat} {c : Code} {Q : AQ} {f : Fr} {H : List Blk} {ds : List ADef} {α : Type} (I : α → Fr → List Blk → Prop) (μ : α → Nat) (x0 : α) (h : I x0 f H)
    (round : ∀ x f H, I x f H → AWP P n c (thenQ (fun f' H' ds' => ds' = ds ∧ ∃ y, μ y < μ x ∧ I y f' H') Q) f H ds) : AWP P n (.loop c) Q f H ds := by
  refine awp_loop (fun m f H ds' => ds' = ds ∧ ∃ x, μ x = m ∧ I x f H) ?_ ⟨rfl, x0, rfl, h⟩
  rintro m f H _ ⟨rfl, x, rfl, hI⟩
  refine (round x f H hI).mono fun y f' H' ds' hq => ?_
  cases y <;> first | exact hq | (obtain ⟨h1, z, h2, h3⟩ := hq; exact ⟨_, h2, h1, z, rfl, h3⟩)
@[simp ↓] theorem QW_cutN (I : Fr → List Blk → Prop) (ds0 : List ADef) (Q : AQ) (f : Fr) (H : List Blk) (ds : List ADef) (w : Wit (cutQ I ds0 Q, AX.normal, f, H, ds)) : QW (cutQ I ds0 Q) .normal f H ds w = (ds = ds0 ∧ I f H) := (rfl)
@[simp ↓] theorem QW_cutR (I : Fr → List Blk → Prop) (ds0 : List ADef) (Q : AQ) (f : Fr) (H : List Blk) (ds : List ADef) (w : Wit (cutQ I ds0 Q, AX.ret, f, H, ds)) : QW (cutQ I ds0 Q) .ret f H ds w = QW Q .ret f H ds (wit _) := (rfl)
@[simp ↓] theorem QW_cutE (I : Fr → List Blk → Prop) (ds0 : List ADef) (Q : AQ) (id : Nat) (f : Fr) (H : List Blk) (ds : List ADef) (w : Wit (cutQ I ds0 Q, AX.exit id, f, H, ds)) : QW (cutQ I ds0 Q) (.exit id) f H ds w = QW Q (.exit id) f H ds (wit _) := (rfl)
theorem appendVW_nil {H : List Blk} {sl : TypeId × Nat × List Value × Nat} {ys : List (List AV)} {K : AV → List Blk → Prop} {w : Wit K} (hb : ys.length * sl.2.2.2 ≤ 140737488355328) (h63 : ys.length ≤ 9223372036854775807)
    (h0 : ys = [] → K (.v (.slice none 0 0)) H) (h1 : ys ≠ [] → K (.hs H.length 0 ys.length ys.length) (H ++ [.row sl.1 sl.2.1 ys])) : appendVW H sl (.v (.slice none 0 0)) ys K w := by
  unfold appendVW appendV
  exact ⟨h0, fun h => ⟨hb, h63, .inl (h1 h)⟩⟩
end
end Go.Mu
