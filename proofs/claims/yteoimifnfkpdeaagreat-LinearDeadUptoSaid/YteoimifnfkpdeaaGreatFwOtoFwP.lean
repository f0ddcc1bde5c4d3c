/- Deferred functions that recover; and rows that are given away at a call's end. -/
import Derived.Test.YteoimifnfkpdeaaGreatFwCptoFwN
import Derived.Recover
set_option linter.unusedVariables false
set_option linter.unusedSimpArgs false
namespace Go.Mu
open Go.RowKit (Below)
def RecSem (P : Program) (d : ADef) (v : AV) (H : List Blk) (K : List Blk → Prop) : Prop :=
  d.mark = none ∧ okFn P d.fid = true ∧ ∃ fn id t ty ty' pos aft ts rest, P.funcs[d.fid]? = some fn ∧ fn.body = some (.seq (.region id #[⟨some t, .call ⟨.builtin .recover, #[], ts⟩, ty, pos, aft, none⟩] false) rest) ∧ ty' = ty ∧
    d.args.length ≤ fn.ntmps ∧ t < fn.ntmps ∧ fn.results.toList = [] ∧
    AWP P fn.ntmps rest (fun x _ H' ds => match x with | .normal => ds = [] ∧ K H' | .ret => ds = [] ∧ K H' | _ => False) (upd (frm d.args 0) t v) H []
def leavesV (P : Program) (rs : List ResultVar) (R : AE → List Blk → Prop) : List ADef → Option AV → Fr → List Blk → Prop
  | [], none, f, H => bindO (resAll P H f rs) fun xs => R (.ret (resTup xs)) H
  | [], some x, f, H => R (.pan x) H
  | d :: ds, st, f, H => RecSem P d (st.getD (.v .nilIface)) H fun H' => leavesV P rs R ds none f H'
def retQD (P : Program) (rs : List ResultVar) (R : AE → List Blk → Prop) : AQ := fun x f H ds =>
  match x with
  | .normal => leavesV P rs R ds none f H
  | .ret => leavesV P rs R ds none f H
  | .pan x => leavesV P rs R ds (some x) f H
  | _ => False
def URel (cx : Cx) : FrameMode → Option AV → Prop
  | .returning, none => True
  | .panicking ch, some x => ∃ y, ch = [{ v := y, recovered := false }] ∧ Rep cx false x y
  | _, _ => False
theorem frm_rel {cx : Cx} {n : Nat} {args : List AV} {vals : List Value} (h3 : RepL cx false args vals) (hs3 : args.length ≤ n) : FRel cx n (frm args 0) { tmps := vals.toArray ++ Array.replicate (n - vals.toArray.size) undef, defers := [] } := by
  have hlen : vals.length = args.length := h3.len.symm
  refine ⟨by simp; omega, fun t ht => ?_⟩
  rw [frm_get]
  simp only [Nat.zero_le, if_true, Nat.sub_zero]
  rw [Array.getD_eq_getD_getElem?, Array.getElem?_append]
  by_cases htl : t < vals.length
  · have e1 : args.getD t (.tup []) = args[t]'(by omega) := by simp [List.getD_eq_getElem?_getD, List.getElem?_eq_getElem (show t < args.length by omega)]
    rw [e1, if_pos (by simpa using htl)]
    simp only [List.getElem?_toArray, List.getElem?_eq_getElem htl, Option.getD_some]
    exact h3.rep t _ _ (List.getElem?_eq_getElem (by omega)) (List.getElem?_eq_getElem htl)
  · have e1 : args.getD t (.tup []) = .tup [] := by simp [List.getD_eq_getElem?_getD, List.getElem?_eq_none (show args.length ≤ t by omega)]
    rw [e1, if_neg (by simpa using htl)]
    have : ((Array.replicate (n - vals.toArray.size) undef)[t - vals.toArray.size]?).getD undef = undef := by
      rw [Array.getElem?_replicate]; split <;> rfl
    rw [this]; exact tup_nil_undef _ _
section
variable {P : Program}
theorem recSem_sound {d : ADef} {st : Option AV} {H : List Blk} {K : List Blk → Prop} (h : RecSem P d (st.getD (.v .nilIface)) H K) {B : Nat} {w0 : World} {cx0 cx : Cx} {vals : List Value} {u : FrameMode}
    (h1 : HRel B w0 cx) (h2 : Le cx0 cx) (h3 : cx.H = H) (h4 : RepL cx false d.args vals) (hu : URel cx u st) :
    CallsD P d.fid vals.toArray u cx.w fun e u' w' => match e with
      | .returned _ => settle u' = .returning ∧ ∃ cx', cx'.w = w' ∧ HRel B w0 cx' ∧ Le cx0 cx' ∧ Le cx cx' ∧ K cx'.H
      | _ => False := by
  obtain ⟨hmk, hok, fn, id, t, ty, ty', pos, aft, ts, rest, hf, hb, rfl, hn, ht, hres, h⟩ := h
  refine callsD_of_wpS hf hb fun c₀ cs hc => ?_
  have hfr := frm_rel h4 hn
  refine wpS_seq (wpS_region ?_)
  have hexec : (execOp ({ tmps := vals.toArray ++ Array.replicate (fn.ntmps - vals.toArray.size) undef, defers := [] } : Act).eval ⟨some t, .call ⟨.builtin .recover, #[], ts⟩, ty', pos, aft, none⟩).run P cx.w = .ok .recover cx.w := by
    simp [execOp, resolve, invoke, builtin]
  have fin : ∀ (v : Value) (u' : FrameMode), settle u' = .returning → Rep cx false (st.getD (.v .nilIface)) v →
      Code.wpS P rest (bodyPostS P fn c₀ cs fun e u' w' => match e with
        | .returned _ => settle u' = .returning ∧ ∃ cx', cx'.w = w' ∧ HRel B w0 cx' ∧ Le cx0 cx' ∧ Le cx cx' ∧ K cx'.H
        | _ => False) (({ tmps := vals.toArray ++ Array.replicate (fn.ntmps - vals.toArray.size) undef, defers := [] } : Act).put (some t) v) ({ c₀ with mode := u' } :: cs) cx.w := by
    intro v u' hs hv
    refine wpS_of_wp (wp_mono (fo_wp.1 (h none (fun hs => by cases hs) B w0 cx cx _ h1 (Le.refl _) h3 (frel_put (d := some t) hfr (fun _ e => by cases e; exact ht) hv) (drel_put (d := some t) (ds := []) trivial))) fun e a' w' hp => ?_)
    obtain ⟨cx', x, f', ds', rfl, b1, b2, b3, b4, b5, b6⟩ := hp
    have dnil : ds' = [] → a'.defers = [] := fun hd => by
      subst hd
      cases hdd : a'.defers with
      | nil => rfl
      | cons d l => rw [hdd] at b4; exact b4.elim
    have hrs : (results fn a'.tmps).run P cx'.w = .ok (.tuple #[]) cx'.w := by
      have : fn.results = #[] := by rw [← Array.toArray_toList (xs := fn.results), hres]
      simp [results, this]
    cases e <;> cases x <;> first | exact b5.elim | exact b6.elim | skip
    · exact ⟨dnil b6.1, u', rfl, _, hrs, hs, cx', rfl, b1, h2.trans b2, b2, b6.2⟩
    · exact ⟨dnil b6.1, u', rfl, _, hrs, hs, cx', rfl, b1, h2.trans b2, b2, b6.2⟩
  show wpOpsS P _ _ [0] _ _ _
  simp only [wpOpsS, List.getElem?_toArray, List.getElem?_cons_zero, Region.wanted, if_true, hexec]
  cases st with
  | none =>
    cases u with
    | returning =>
      have hr : recoverD (c₀ :: cs) = none := by simp [recoverD, hc]
      simp only [hr]
      have := fin .nilIface .returning rfl (.v _)
      have e : ({ c₀ with mode := .returning } : Frame) = c₀ := by rw [← hc]
      rw [e] at this
      exact this
    | run => exact hu.elim
    | panicking ch => exact hu.elim
  | some x =>
    cases u with
    | returning => exact hu.elim
    | run => exact hu.elim
    | panicking ch =>
      obtain ⟨y, rfl, hy⟩ := hu
      have hr : recoverD (c₀ :: cs) = some (y, { c₀ with mode := .panicking [{ v := y, recovered := true }] } :: cs) := by simp [recoverD, hc]
      simp only [hr]
      exact fin y _ (by simp [settle]) hy
theorem leaves_sound {fn : Func} {n : Nat} {rs : List ResultVar} (hrs : fn.results.toList = rs) (hok : rs.all (resOk n) = true) {R : AE → List Blk → Prop} : ∀ {ds : List ADef} {st : Option AV} {f : Fr} {H : List Blk} {B : Nat} {w0 : World} {cx0 cx : Cx} {a : Act} {es : List Deferred} {u : FrameMode},
    leavesV P rs R ds st f H → HRel B w0 cx → Le cx0 cx → cx.H = H → FRel cx n f a → DRel cx ds es → URel cx u st → Leaves P fn a.tmps (EndRel B w0 cx0 R) es u cx.w
  | [], none, f, H, B, w0, cx0, cx, a, es, u, h, h1, h2, h3, h4, h5, hu => by
    subst h3
    cases es with
    | cons => exact h5.elim
    | nil =>
      cases u with
      | returning =>
        obtain ⟨xs, hx, hR⟩ := h
        obtain ⟨y, hy, hr⟩ := results_rep (P := P) (fn := fn) h1 h4 (by rw [hrs]; exact hok) (by rw [hrs]; exact hx)
        exact ⟨y, hy, cx, _, rfl, h1, h2, hr, hR⟩
      | run => exact hu.elim
      | panicking ch => exact hu.elim
  | [], some x, f, H, B, w0, cx0, cx, a, es, u, h, h1, h2, h3, h4, h5, hu => by
    subst h3
    cases es with
    | cons => exact h5.elim
    | nil =>
      cases u with
      | returning => exact hu.elim
      | run => exact hu.elim
      | panicking ch =>
        obtain ⟨y, rfl, hy⟩ := hu
        exact ⟨cx, x, y, rfl, h1, h2, rfl, hy, h⟩
  | d :: ds, st, f, H, B, w0, cx0, cx, a, es, u, h, h1, h2, h3, h4, h5, hu => by
    cases es with
    | nil => exact h5.elim
    | cons e es =>
      have hmk : d.mark = none := by cases st <;> exact h.1
      obtain ⟨h51, h5'⟩ := h5
      rw [hmk] at h51
      obtain ⟨cap, ht, hargs⟩ := h51
      obtain ⟨target, dargs⟩ := e
      simp only at ht hargs
      subst ht
      have hne : u ≠ .run := by rintro rfl; cases st <;> exact hu.elim
      have h' : RecSem P d (st.getD (.v .nilIface)) H fun H' => leavesV P rs R ds none f H' := by cases st <;> exact h
      have hinv : (invoke (.fn (.func d.fid) cap) dargs).run P cx.w = .ok (.enter d.fid (dargs ++ cap)) cx.w := by
        have hokf := h'.2.1
        unfold okFn at hokf
        split at hokf
        · rename_i fn' hf'
          simp only [Bool.and_eq_true, Bool.not_eq_true', Option.isSome_iff_exists] at hokf
          obtain ⟨⟨bd, hbd⟩, hnm⟩ := hokf
          have hbn : fn'.body.isNone = false := by rw [hbd]; rfl
          simp only [Sem.run_bind, Sem.run_pure, Result.andThen_ok, invoke, callFunc, run_program, hf', hnm, Bool.false_eq_true, if_false, hbn]
        · cases hokf
      refine leaves_cons hne hinv ?_
      have hcall := recSem_sound (P := P) h' h1 h2 h3 hargs hu
      rw [Array.toArray_toList] at hcall
      refine hcall.mono fun e u' w' he => ?_
      cases e with
      | returned v =>
        obtain ⟨hs, cx', rfl, c1, c2, c3, c4⟩ := he
        show Leaves P fn a.tmps (EndRel B w0 cx0 R) es (settle u') cx'.w
        rw [hs]
        exact leaves_sound hrs hok c4 c1 c2 rfl (h4.mono c3) (h5'.mono c3) trivial
      | panicked ch => exact he.elim
      | outgrown => exact he.elim
theorem acalls_of_vcD {hn : Nat → Bool} {od : Nat → Option OPlan} {fid : FuncId} {fn : Func} {c : Code} {args : List AV} {H : List Blk} {R : AE → List Blk → Prop} (hf : P.funcs[fid]? = some fn) (hb : fn.body = some c)
    (hs : (smallC hn od fn.ntmps c && fn.results.toList.all (resOk fn.ntmps) && decide (args.length ≤ fn.ntmps) && P.follows .mixedOrders) = true)
    (h : vcC P hn od fn.ntmps c (retQD P fn.results.toList R) (frm args 0) H []) : ACalls P fid args H R := by
  simp only [Bool.and_eq_true, decide_eq_true_eq] at hs
  obtain ⟨⟨⟨hs1, hs2⟩, hs3⟩, hm⟩ := hs
  intro B w0 cx vals h1 h2 h3
  refine calls_of_wp_defers hf hb ?_
  refine wp_mono (fo_wp.1 (vcC_sound hm hs1 h none (fun hs => by cases hs) B w0 cx cx _ h1 (Le.refl _) h2 (frm_rel h3 hs3) trivial)) fun e a' w' hp => ?_
  obtain ⟨cx', x, f', ds', rfl, b1, b2, b3, b4, b5, b6⟩ := hp
  cases e <;> cases x <;> first | exact b5.elim | exact b6.elim | skip
  · exact leaves_sound rfl hs2 b6 b1 b2 rfl b3 b4 trivial
  · exact leaves_sound rfl hs2 b6 b1 b2 rfl b3 b4 trivial
  · exact leaves_sound rfl hs2 b6 b1 b2 rfl b3 b4 b5
theorem recSem_of_vc {hn : Nat → Bool} {od : Nat → Option OPlan} {d : ADef} {v : AV} {H : List Blk} {K : List Blk → Prop} {fn : Func} {id t : Nat} {ty : TypeId} {pos : String} {aft : Array Edge} {ts : Array TypeId} {rest : Code}
    (hf : P.funcs[d.fid]? = some fn) (hb : fn.body = some (.seq (.region id #[⟨some t, .call ⟨.builtin .recover, #[], ts⟩, ty, pos, aft, none⟩] false) rest))
    (hmk : d.mark = none) (hs : (okFn P d.fid && smallC hn od fn.ntmps rest && fn.results.toList.isEmpty && decide (d.args.length ≤ fn.ntmps) && decide (t < fn.ntmps) && P.follows .mixedOrders) = true)
    (h : vcC P hn od fn.ntmps rest (fun x _ H' ds => match x with | .normal => ds = [] ∧ K H' | .ret => ds = [] ∧ K H' | _ => False) (upd (frm d.args 0) t v) H []) : RecSem P d v H K := by
  simp only [Bool.and_eq_true, decide_eq_true_eq, List.isEmpty_iff] at hs
  obtain ⟨⟨⟨⟨⟨hs1, hs2⟩, hs3⟩, hs4⟩, hs5⟩, hm⟩ := hs
  exact ⟨hmk, hs1, fn, id, t, ty, ty, pos, aft, ts, rest, hf, hb, rfl, hs4, hs5, hs3, vcC_sound hm hs2 h⟩
end
def recQ (K : List Blk → Prop) : AQ := fun x _ H' ds => match x with | .normal => ds = [] ∧ K H' | .ret => ds = [] ∧ K H' | _ => False
@[simp ↓] theorem QW_recN (K : List Blk → Prop) (f : Fr) (H : List Blk) (ds : List ADef) (w : Wit (recQ K, AX.normal, f, H, ds)) : QW (recQ K) .normal f H ds w = (ds = [] ∧ K H) := (rfl)
def leavesW (P : Program) (rs : List ResultVar) (R : AE → List Blk → Prop) (ds : List ADef) (st : Option AV) (f : Fr) (H : List Blk) (_ : Wit (rs, R, f)) : Prop := leavesV P rs R ds st f H
@[simp ↓] theorem QW_retDR (P : Program) (rs : List ResultVar) (R : AE → List Blk → Prop) (f : Fr) (H : List Blk) (ds : List ADef) (w : Wit (retQD P rs R, AX.ret, f, H, ds)) : QW (retQD P rs R) .ret f H ds w = leavesW P rs R ds none f H (wit _) := (rfl)
@[simp ↓] theorem QW_retDP (P : Program) (rs : List ResultVar) (R : AE → List Blk → Prop) (x : AV) (f : Fr) (H : List Blk) (ds : List ADef) (w : Wit (retQD P rs R, AX.pan x, f, H, ds)) : QW (retQD P rs R) (.pan x) f H ds w = leavesW P rs R ds (some x) f H (wit _) := (rfl)
@[simp ↓] theorem leavesW_nil (P : Program) (rs : List ResultVar) (R : AE → List Blk → Prop) (f : Fr) (H : List Blk) (w : Wit (rs, R, f)) : leavesW P rs R [] none f H w = bindOW (resW P H rs f (wit _)) (fun xs => bindVW (resTup xs) (fun x => R (.ret x) H) (wit _)) (wit _) := (rfl)
def recW (P : Program) (d : ADef) (v : AV) (H : List Blk) (K : List Blk → Prop) (_ : Wit K) : Prop := RecSem P d v H K
theorem recW_of {P : Program} {d : ADef} {v : AV} {H : List Blk} {K K' : List Blk → Prop} {w : Wit K} (h : RecSem P d v H K') (hk : ∀ H', K' H' → K H') : recW P d v H K w := by
  obtain ⟨h0, h1, fn, id, t, ty, ty', pos, aft, ts, rest, a1, a2, a3, a4, a5, a6, a7⟩ := h
  exact ⟨h0, h1, fn, id, t, ty, ty', pos, aft, ts, rest, a1, a2, a3, a4, a5, a6, a7.mono fun x f H ds hq => by cases x <;> first | exact ⟨hq.1, hk _ hq.2⟩ | exact hq⟩
@[simp ↓] theorem leavesW_consN (P : Program) (rs : List ResultVar) (R : AE → List Blk → Prop) (d : ADef) (ds : List ADef) (f : Fr) (H : List Blk) (w : Wit (rs, R, f)) : leavesW P rs R (d :: ds) none f H w = recW P d (.v .nilIface) H (fun H' => leavesW P rs R ds none f H' (wit _)) (wit _) := (rfl)
@[simp ↓] theorem leavesW_consP (P : Program) (rs : List ResultVar) (R : AE → List Blk → Prop) (d : ADef) (ds : List ADef) (x : AV) (f : Fr) (H : List Blk) (w : Wit (rs, R, f)) : leavesW P rs R (d :: ds) (some x) f H w = recW P d x H (fun H' => leavesW P rs R ds none f H' (wit _)) (wit _) := (rfl)
theorem acalls_under {P : Program} {fid : FuncId} {args : List AV} {H : List Blk} {R : AE → List Blk → Prop} (h : underH H.length H = true → underL H.length args = true → ACalls P fid args H R) : ACalls P fid args H R := by
  intro B w0 cx vals h1 h2 h3
  have hu := h1.under
  have ha := h3.under
  rw [h2] at hu ha
  exact h hu ha B w0 cx vals h1 h2 h3
mutual
theorem frz_id {k sz n : Nat} {es : List (List AV)} (hn : n ≤ k) : ∀ (a : AV), a.under n = true → a.frz k sz es = a
  | .hs k' off m ver, h => by
    simp only [AV.under, decide_eq_true_eq] at h
    simp only [AV.frz]
    rw [if_neg (by omega)]
  | .fn f a b, h => by
    simp only [AV.under, Bool.and_eq_true] at h
    simp only [AV.frz, frzL_id hn a h.1, frzL_id hn b h.2]
  | .ifc t x, h => by simp only [AV.under] at h; simp only [AV.frz, frz_id hn x h]
  | .agg cs, h => by simp only [AV.under] at h; simp only [AV.frz, frzL_id hn cs h]
  | .tup cs, h => by simp only [AV.under] at h; simp only [AV.frz, frzL_id hn cs h]
  | .v x, _ => rfl
  | .vs _ _, _ => rfl
  | .vx _ _, _ => rfl
  | .vp _, _ => rfl
  | .bp _ _, _ => rfl
  | .rp _ _ _ _, _ => rfl
  | .hm _, _ => rfl
  | .hg _, _ => rfl
  | .hi _, _ => rfl
  | .yl _, _ => rfl
  | .bs _ _ _, _ => rfl
  | .junk, _ => rfl
theorem frzL_id {k sz n : Nat} {es : List (List AV)} (hn : n ≤ k) : ∀ (l : List AV), underL n l = true → frzL k sz es l = l
  | [], _ => rfl
  | c :: cs, h => by
    simp only [underL, Bool.and_eq_true] at h
    simp only [frzL, frz_id hn c h.1, frzL_id hn cs h.2]
end
theorem frzB_id {k sz n : Nat} {es : List (List AV)} (hn : n ≤ k) (b : Blk) (h : b.under n = true) : b.frz k sz es = b := by
  cases b with
  | box t cs => simp only [Blk.under] at h; simp only [Blk.frz, frzL_id hn cs h]
  | row t z rs =>
    simp only [Blk.under, List.all_eq_true] at h
    simp only [Blk.frz]
    congr 1
    exact (List.map_congr_left fun r hr => frzL_id hn r (h r hr)).trans (List.map_id _)
  | map ms =>
    simp only [Blk.under, List.all_eq_true] at h
    simp only [Blk.frz]
    congr 1
    exact (List.map_congr_left (g := id) fun p hp => by rw [frz_id hn p.2 (h p hp)]; rfl).trans (List.map_id _)
  | mapg ms =>
    simp only [Blk.under, List.all_eq_true] at h
    simp only [Blk.frz]
    congr 1
    exact (List.map_congr_left (g := id) fun p hp => by rw [frz_id hn p.2 (h p hp)]; rfl).trans (List.map_id _)
  | pend => rfl
  | gone => rfl
  | dfr _ => rfl
  | lp _ _ _ _ _ _ _ => rfl
  | it _ _ _ => rfl
theorem frzH_app {sz : Nat} {es : List (List AV)} {H L : List Blk} (j : Nat) (hu : underH H.length H = true) : frzH (H.length + j) sz es (H ++ L) = H ++ (L.map (Blk.frz (H.length + j) sz es)).set j .gone := by
  unfold frzH
  rw [List.map_append, List.set_append, if_neg (by simp)]
  have : H.map (Blk.frz (H.length + j) sz es) = H := (List.map_congr_left fun b hb => frzB_id (Nat.le_add_right _ _) b (List.all_eq_true.1 hu b hb)).trans (List.map_id _)
  rw [this]
  simp
theorem tidy_give {H L : List Blk} {R : AE → List Blk → Prop} {r : AV} (hu : underH H.length H = true) (j sz : Nat) (t : TypeId) (es : List (List AV)) (hj : L[j]? = some (.row t sz es)) (hz : es.flatten.all AV.frzB = true)
    (h : Tidy H R (.ret (r.frz (H.length + j) sz es)) (H ++ (L.map (Blk.frz (H.length + j) sz es)).set j .gone)) : Tidy H R (.ret r) (H ++ L) := by
  obtain ⟨H1, r1, g, rest⟩ := h
  rw [← frzH_app j hu] at g
  exact ⟨H1, r1, .step _ _ (H.length + j) sz t es _ _ (by rw [List.getElem?_append_right (by omega)]; simpa using hj) hz g, rest⟩
def ownS (k : Nat) (es : List (List AV)) : AV := if es = [] then .v (.slice none 0 0) else .hs k 0 es.length es.length
def ownB (t : TypeId) (sz : Nat) (es : List (List AV)) : Blk := if es = [] then .pend else .row t sz es
@[simp] theorem avCells_ownS (k : Nat) (es : List (List AV)) : avCells (ownS k es) = some [ownS k es] := by unfold ownS; split <;> rfl
@[simp] theorem one_ownS (k : Nat) (es : List (List AV)) : AV.one (ownS k es) = true := by unfold ownS; split <;> rfl
@[simp] theorem ownS_nil (k : Nat) : ownS k [] = .v (.slice none 0 0) := by simp [ownS]
@[simp] theorem ownB_nil (t : TypeId) (sz : Nat) : ownB t sz [] = .pend := by simp [ownB]
theorem under_ownS (n k : Nat) (es : List (List AV)) (h : k < n) : (ownS k es).under n = true := by unfold ownS; split <;> simp [AV.under, h]
theorem lenV_ownS {H : List Blk} {k : Nat} {t sz : Nat} {es : List (List AV)} (hk : H[k]? = some (ownB t sz es)) : lenV H 1 (ownS k es) = some (es.length : Int) := by
  unfold ownS ownB at *
  split at hk
  · rename_i h; subst h; simp [lenV]
  · rename_i h; simp [h, lenV, hk]
theorem set_same {α : Type} {l : List α} {k : Nat} {x : α} (h : l[k]? = some x) : l.set k x = l := by
  apply List.ext_getElem?
  intro i
  by_cases hi : k = i
  · subst hi; rw [set_some h, h]
  · rw [set_other hi]
theorem appendVW_own {H : List Blk} {sl : TypeId × Nat × List Value × Nat} {k : Nat} {es ys : List (List AV)} {K : AV → List Blk → Prop} {w : Wit K} (hk : H[k]? = some (ownB sl.1 sl.2.1 es))
    (hb : (es.length + ys.length) * sl.2.2.2 ≤ 140737488355328) (h63 : es.length + ys.length ≤ 9223372036854775807) (h : K (ownS k (es ++ ys)) (H.set k (ownB sl.1 sl.2.1 (es ++ ys)))) : appendVW H sl (ownS k es) ys K w := by
  unfold appendVW appendV
  by_cases he : es = []
  · subst he
    simp only [ownS, ownB, if_true, List.nil_append, List.length_nil, Nat.zero_add] at *
    refine ⟨fun hy => ?_, fun hy => ⟨hb, h63, .inr ⟨k, hk, ?_⟩⟩⟩
    · subst hy; simp only [if_true] at h; rwa [set_same hk] at h
    · simpa only [if_neg hy] using h
  · have he2 : es ++ ys ≠ [] := by simp [he]
    have hk2 : H[k]? = some (.row sl.1 sl.2.1 es) := by rw [hk, ownB, if_neg he]
    have h2 : K (.hs k 0 (es.length + ys.length) (es.length + ys.length)) (H.set k (.row sl.1 sl.2.1 (es ++ ys))) := by
      rw [ownS, if_neg he2, ownB, if_neg he2, List.length_append] at h; exact h
    rw [ownS, if_neg he]
    show (match H[k]? with | some (.row t z es') => _ | _ => False)
    rw [hk2]
    exact ⟨⟨rfl, rfl, rfl⟩, .inl ⟨⟨rfl, hb, h63⟩, h2⟩⟩
def Cx.spare (cx : Cx) (m : Nat) : Cx := { cx with H := cx.H ++ List.replicate m .pend }
theorem le_spare (cx : Cx) (m : Nat) : Le cx (cx.spare m) :=
  ⟨fun _ _ _ _ h => h, fun _ h => h, fun k bl h hf => ⟨bl, getElem?_append_some h, hf, rfl⟩, fun k t sz es h => .inr ⟨es, getElem?_append_some h, Nat.le_refl _, fun _ => ⟨rfl, rfl⟩⟩⟩
theorem hrel_spare {B : Nat} {w0 : World} {cx : Cx} (h : HRel B w0 cx) (m : Nat) : HRel B w0 (cx.spare m) := by
  have hle := le_spare cx m
  have key : ∀ (i : Nat) (bl : Blk), (cx.spare m).H[i]? = some bl → cx.H[i]? = some bl ∨ bl = Blk.pend := by
    intro i bl hi
    simp only [Cx.spare, List.getElem?_append] at hi
    split at hi
    · exact .inl hi
    · rw [List.getElem?_replicate] at hi
      split at hi
      · cases hi; exact .inr rfl
      · cases hi
  refine ⟨h.below, h.base, h.frz, fun i bl hi => ?_, fun i j b1 b2 a1 a2 l1 l2 he => ?_⟩
  · rcases key i bl hi with hi' | rfl
    · have hb := h.blk i bl hi'
      exact hb.mono hle fun hl => ⟨rfl, rfl, rfl, (hb.lt hl).2.2⟩
    · trivial
  · rcases key i b1 a1 with a1' | rfl
    · rcases key j b2 a2 with a2' | rfl
      · exact h.inj i j b1 b2 a1' a2' l1 l2 he
      · simp [Blk.live] at l2
    · simp [Blk.live] at l1
theorem acalls_spare (m : Nat) {P : Program} {fid : FuncId} {args : List AV} {H : List Blk} {R : AE → List Blk → Prop} (h : ACalls P fid args (H ++ List.replicate m .pend) R) : ACalls P fid args H R := by
  intro B w0 cx vals h1 h2 h3
  subst h2
  refine (h B w0 (cx.spare m) vals (hrel_spare h1 m) rfl (h3.mono (le_spare cx m))).mono fun e w' he => ?_
  cases e with
  | returned y => obtain ⟨cx', r, b0, b1, b2, b3, b4⟩ := he; exact ⟨cx', r, b0, b1, (le_spare cx m).trans b2, b3, b4⟩
  | panicked ch => obtain ⟨cx', x, y, b0, b1, b2, b3, b4, b5⟩ := he; exact ⟨cx', x, y, b0, b1, (le_spare cx m).trans b2, b3, b4, b5⟩
  | outgrown => exact he
theorem tidy_to {H H2 L : List Blk} {R : AE → List Blk → Prop} {r : AV} (hl : H.length ≤ H2.length) (hu2 : underH H.length H = true → underH H2.length H2 = true) (hu : r.under H2.length = true) (h : R (.ret r) H2) : Tidy H R (.ret r) (H2 ++ L) :=
  ⟨_, _, .refl _ _, H2, L, rfl, hl, hu2, hu, h⟩
theorem tidy_toP {H H2 L : List Blk} {R : AE → List Blk → Prop} {r : AV} (hl : H.length ≤ H2.length) (hu2 : underH H.length H = true → underH H2.length H2 = true) (hu : r.under H2.length = true) (h : R (.pan r) H2) : Tidy H R (.pan r) (H2 ++ L) :=
  ⟨_, _, .refl _ _, H2, L, rfl, hl, hu2, hu, h⟩
theorem underH_set {n k : Nat} {H : List Blk} {b : Blk} (h : underH n H = true) (hb : b.under n = true) : underH n (H.set k b) = true := by
  simp only [underH, List.all_eq_true] at h ⊢
  intro x hx
  rcases List.mem_or_eq_of_mem_set hx with hx | rfl
  · exact h x hx
  · exact hb
theorem under_ownB (n t sz : Nat) (es : List (List AV)) (h : es.all (underL n) = true) : (ownB t sz es).under n = true := by unfold ownB; split; rfl; exact h
theorem lt_of_get {α : Type} {l : List α} {k : Nat} {x : α} (h : l[k]? = some x) : k < l.length := (List.getElem?_eq_some_iff.1 h).1
theorem m1_get {H : List Blk} {k : Nat} (hk : k < H.length) (X : Blk) (L : List Blk) : (H.set k X ++ L)[k]? = some X := by
  rw [List.getElem?_append_left (by simpa using hk)]; simp [hk]
theorem m1_set {H : List Blk} {k : Nat} (hk : k < H.length) (X Y : Blk) (L : List Blk) : (H.set k X ++ L).set k Y = H.set k Y ++ L := by
  rw [List.set_append, if_pos (by simpa using hk)]; simp
theorem m1_getN {H : List Blk} {k : Nat} (X : Blk) (L : List Blk) (i : Nat) : (H.set k X ++ L)[H.length + i]? = L[i]? := by
  rw [List.getElem?_append_right (by simp)]; simp
theorem m1_getE {H : List Blk} {k : Nat} (X : Blk) (L : List Blk) : (H.set k X ++ L)[H.length]? = L[0]? := m1_getN X L 0
theorem m1_setN {H : List Blk} {k : Nat} (X Y : Blk) (L : List Blk) (i : Nat) : (H.set k X ++ L).set (H.length + i) Y = H.set k X ++ L.set i Y := by
  rw [List.set_append, if_neg (by simp)]; simp
theorem m1_setE {H : List Blk} {k : Nat} (X Y : Blk) (L : List Blk) : (H.set k X ++ L).set H.length Y = H.set k X ++ L.set 0 Y := m1_setN X Y L 0
def set2 (H : List Blk) (a : Nat) (X : Blk) (b : Nat) (Y : Blk) : List Blk := (H.set a X).set b Y
@[simp] theorem set2_length (H : List Blk) (a : Nat) (X : Blk) (b : Nat) (Y : Blk) : (set2 H a X b Y).length = H.length := by simp [set2]
theorem m2_getA {H : List Blk} {a b : Nat} (ha : a < H.length) (hab : a ≠ b) (X Y : Blk) (L : List Blk) : (set2 H a X b Y ++ L)[a]? = some X := by
  rw [List.getElem?_append_left (by simpa using ha), set2, List.getElem?_set_ne (fun e => hab e.symm)]; simp [ha]
theorem m2_getB {H : List Blk} {a b : Nat} (hb : b < H.length) (X Y : Blk) (L : List Blk) : (set2 H a X b Y ++ L)[b]? = some Y := by
  rw [List.getElem?_append_left (by simpa using hb), set2]; simp [hb]
theorem m2_setA {H : List Blk} {a b : Nat} (ha : a < H.length) (hab : a ≠ b) (X Y Z : Blk) (L : List Blk) : (set2 H a X b Y ++ L).set a Z = set2 H a Z b Y ++ L := by
  rw [List.set_append, if_pos (by simpa using ha), set2, set2, List.set_comm _ _ (fun e => hab e.symm)]; simp
theorem m2_setB {H : List Blk} {a b : Nat} (hb : b < H.length) (X Y Z : Blk) (L : List Blk) : (set2 H a X b Y ++ L).set b Z = set2 H a X b Z ++ L := by
  rw [List.set_append, if_pos (by simpa using hb), set2, set2]; simp
theorem m2_getN {H : List Blk} {a b : Nat} (X Y : Blk) (L : List Blk) (i : Nat) : (set2 H a X b Y ++ L)[H.length + i]? = L[i]? := by
  rw [List.getElem?_append_right (by simp)]; simp
theorem m2_getE {H : List Blk} {a b : Nat} (X Y : Blk) (L : List Blk) : (set2 H a X b Y ++ L)[H.length]? = L[0]? := m2_getN X Y L 0
theorem m2_setN {H : List Blk} {a b : Nat} (X Y Z : Blk) (L : List Blk) (i : Nat) : (set2 H a X b Y ++ L).set (H.length + i) Z = set2 H a X b Y ++ L.set i Z := by
  rw [List.set_append, if_neg (by simp)]; simp
theorem m2_setE {H : List Blk} {a b : Nat} (X Y Z : Blk) (L : List Blk) : (set2 H a X b Y ++ L).set H.length Z = set2 H a X b Y ++ L.set 0 Z := m2_setN X Y Z L 0
theorem set2_same {H : List Blk} {a b : Nat} {X Y : Blk} (ha : H[a]? = some X) (hb : H[b]? = some Y) : set2 H a X b Y = H := by rw [set2, set_same ha, set_same hb]
theorem underH_set2 {n a b : Nat} {H : List Blk} {X Y : Blk} (h : underH n H = true) (hX : X.under n = true) (hY : Y.under n = true) : underH n (set2 H a X b Y) = true := underH_set (underH_set h hX) hY
structure Hid (p : Prop) : Prop where
  out : p
theorem isEmpty_len {α : Type} (l : List α) : l.isEmpty = decide (l.length = 0) := by cases l <;> simp
theorem m2_set2 {H : List Blk} {a b : Nat} (ha : a < H.length) (hb : b < H.length) (hab : a ≠ b) (X Y X' Y' : Blk) (L : List Blk) : set2 (set2 H a X b Y ++ L) a X' b Y' = set2 H a X' b Y' ++ L := by
  rw [set2, m2_setA ha hab, m2_setB hb]
theorem underH_m2 {H : List Blk} {a b n : Nat} (ha : a < H.length) (hb : b < H.length) (hab : a ≠ b) {X Y X' Y' : Blk} {L : List Blk} (h : underH n (set2 H a X b Y ++ L) = true) (hX : X'.under n = true) (hY : Y'.under n = true) :
    underH n (set2 H a X' b Y' ++ L) = true := by
  rw [← m2_set2 ha hb hab X Y]; exact underH_set2 h hX hY
inductive Weak : AV → AV → Prop
  | refl (a : AV) : Weak a a
  | nil (sz : Nat) : Weak (.v (.slice none 0 0)) (.vs sz [])
  | vx (sz : Nat) (es : List (List AV)) : Weak (.vx sz es) (.vs sz es)
  | agg (cs cs' : List AV) (hl : cs.length = cs'.length) (h : ∀ (j : Nat) c c', cs[j]? = some c → cs'[j]? = some c' → Weak c c') : Weak (.agg cs) (.agg cs')
  | tup (cs cs' : List AV) (hl : cs.length = cs'.length) (h : ∀ (j : Nat) c c', cs[j]? = some c → cs'[j]? = some c' → Weak c c') : Weak (.tup cs) (.tup cs')
  | ifc (t : TypeId) (a a' : AV) (h : Weak a a') : Weak (.ifc t a) (.ifc t a')
  | vs (sz : Nat) (es es' : List (List AV)) (hl : es.length = es'.length) (he : ∀ (j : Nat) e e', es[j]? = some e → es'[j]? = some e' → e.length = e'.length)
      (h : ∀ (j : Nat) c c', es.flatten[j]? = some c → es'.flatten[j]? = some c' → Weak c c') : Weak (.vs sz es) (.vs sz es')
structure WeakL (cs cs' : List AV) : Prop where
  len : cs.length = cs'.length
  weak : ∀ (j : Nat) c c', cs[j]? = some c → cs'[j]? = some c' → Weak c c'
theorem WeakL.nil : WeakL [] [] := ⟨rfl, fun j c c' h => by simp at h⟩
theorem WeakL.refl (cs : List AV) : WeakL cs cs := ⟨rfl, fun j c c' h h' => by rw [h] at h'; cases h'; exact .refl _⟩
theorem WeakL.cons {a a' : AV} {cs cs' : List AV} (h : Weak a a') (hs : WeakL cs cs') : WeakL (a :: cs) (a' :: cs') := by
  refine ⟨by simp [hs.len], fun j c c' h1 h2 => ?_⟩
  cases j with
  | zero => simp at h1 h2; subst h1; subst h2; exact h
  | succ j => exact hs.weak j c c' (by simpa using h1) (by simpa using h2)
theorem WeakL.append {as as' cs cs' : List AV} (h : WeakL as as') (hs : WeakL cs cs') : WeakL (as ++ cs) (as' ++ cs') := by
  induction as generalizing as' with
  | nil => cases as' with
    | nil => exact hs
    | cons a l => have := h.len; simp at this
  | cons a l ih => cases as' with
    | nil => have := h.len; simp at this
    | cons a' l' =>
      exact (WeakL.cons (h.weak 0 _ _ rfl rfl) (ih ⟨by simpa using h.len, fun j c c' h1 h2 => h.weak (j + 1) c c' (by simpa using h1) (by simpa using h2)⟩))
theorem Weak.aggL {cs cs' : List AV} (h : WeakL cs cs') : Weak (.agg cs) (.agg cs') := .agg _ _ h.len h.weak
theorem Weak.tupL {cs cs' : List AV} (h : WeakL cs cs') : Weak (.tup cs) (.tup cs') := .tup _ _ h.len h.weak
inductive WeakR : List (List AV) → List (List AV) → Prop
  | nil : WeakR [] []
  | cons {e e' : List AV} {es es' : List (List AV)} (h : WeakL e e') (hs : WeakR es es') : WeakR (e :: es) (e' :: es')
theorem Weak.vsR {sz : Nat} {es es' : List (List AV)} (h : WeakR es es') : Weak (.vs sz es) (.vs sz es') := by
  suffices h2 : es.length = es'.length ∧ (∀ (j : Nat) e e', es[j]? = some e → es'[j]? = some e' → e.length = e'.length) ∧ WeakL es.flatten es'.flatten from .vs _ _ _ h2.1 h2.2.1 h2.2.2.weak
  induction h with
  | nil => exact ⟨rfl, fun j e e' h => by simp at h, WeakL.nil⟩
  | cons h hs ih =>
    refine ⟨by simp [ih.1], fun j e e' h1 h2 => ?_, by simpa using h.append ih.2.2⟩
    cases j with
    | zero => simp at h1 h2; subst h1; subst h2; exact h.len
    | succ j => exact ih.2.1 j e e' (by simpa using h1) (by simpa using h2)
theorem Rep.weakens {cx : Cx} {a a' : AV} (hw : Weak a a') : ∀ {z : Bool} {y : Value}, Rep cx z a y → Rep cx z a' y := by
  induction hw with
  | refl a => exact fun h => h
  | nil sz => intro z y h; obtain rfl : y = .slice none 0 0 := by cases h; rfl
              exact .vs0 sz none 0
  | vx sz es =>
    intro z y hr
    cases hr with
    | vx _ _ b o vals hf hz hll hn ho hc hv => exact .vs sz es b o es.length vals hf hz (Nat.le_refl _) hll hn ho hc hv
  | agg cs cs' hl h ih =>
    intro z y hr
    cases hr with
    | agg _ vals hn hv =>
      refine .agg cs' vals (by omega) fun j c x h1 h2 => ?_
      have hj : j < cs.length := by have := (List.getElem?_eq_some_iff.1 h1).1; omega
      exact ih j _ c (List.getElem?_eq_getElem hj) h1 (hv j _ x (List.getElem?_eq_getElem hj) h2)
  | tup cs cs' hl h ih =>
    intro z y hr
    cases hr with
    | tup _ vals hn hv =>
      refine .tup cs' vals (by omega) fun j c x h1 h2 => ?_
      have hj : j < cs.length := by have := (List.getElem?_eq_some_iff.1 h1).1; omega
      exact ih j _ c (List.getElem?_eq_getElem hj) h1 (hv j _ x (List.getElem?_eq_getElem hj) h2)
  | ifc t a a' h ih =>
    intro z y hr
    cases hr with
    | ifc _ _ y hr => exact .ifc t a' y (ih hr)
  | vs sz es es' hl he h ih =>
    intro z y hr
    have hflat : es.flatten.length = es'.flatten.length := by
      clear h ih hr
      induction es generalizing es' with
      | nil => cases es' with
        | nil => rfl
        | cons a l => simp at hl
      | cons a l ihl => cases es' with
        | nil => simp at hl
        | cons a' l' =>
          simp only [List.flatten_cons, List.length_append]
          rw [he 0 a a' rfl rfl, ihl l' (by simpa using hl) (fun j e e' h1 h2 => he (j + 1) e e' (by simpa using h1) (by simpa using h2))]
    generalize hx : AV.vs sz es = x at hr
    cases hr <;> first | (cases hx; done) | skip
    · cases hx
      obtain rfl : es' = [] := List.eq_nil_of_length_eq_zero (by simpa using hl.symm)
      exact .vs0 sz _ _
    · rename_i b off cap vals hf hz hcap hll hn ho hc hv
      cases hx
      have := Rep.vs (cx := cx) (z := z) sz es' b off cap vals hf hz (by omega) (fun e' hm => by
        obtain ⟨j, hj, rfl⟩ := List.getElem_of_mem hm
        rw [← he j _ _ (List.getElem?_eq_getElem (by omega)) (List.getElem?_eq_getElem hj)]
        exact hll _ (List.getElem_mem _)) (by omega) ho hc (fun j c x h1 h2 => by
        have hj : j < es.flatten.length := by have := (List.getElem?_eq_some_iff.1 h1).1; omega
        exact ih j _ c (List.getElem?_eq_getElem hj) h1 (hv j _ x (List.getElem?_eq_getElem hj) h2))
      rw [hl]; exact this
theorem RepL.weakens {cx : Cx} {z : Bool} {cs cs' : List AV} {vals : List Value} (hw : WeakL cs cs') (h : RepL cx z cs vals) : RepL cx z cs' vals := by
  refine ⟨by rw [← hw.len]; exact h.len, fun j c x h1 h2 => ?_⟩
  have hj : j < cs.length := by have := (List.getElem?_eq_some_iff.1 h1).1; have := hw.len; omega
  exact Rep.weakens (hw.weak j _ c (List.getElem?_eq_getElem hj) h1) (h.rep j _ x (List.getElem?_eq_getElem hj) h2)
theorem acalls_weak {P : Program} {fid : FuncId} {args args' : List AV} {H : List Blk} {R : AE → List Blk → Prop} (hw : WeakL args args') (h : ACalls P fid args' H R) : ACalls P fid args H R :=
  fun B w0 cx vals h1 h2 h3 => h B w0 cx vals h1 h2 (h3.weakens hw)
def WeakE (R : AE → List Blk → Prop) : AE → List Blk → Prop := fun e H' => match e with | .ret r => ∃ r', Weak r r' ∧ R (.ret r') H' | .pan x => R (.pan x) H'
theorem acalls_weakE {P : Program} {fid : FuncId} {args : List AV} {H : List Blk} {R : AE → List Blk → Prop} (h : ACalls P fid args H (WeakE R)) : ACalls P fid args H R := by
  intro B w0 cx vals h1 h2 h3
  refine (h B w0 cx vals h1 h2 h3).mono fun e w' he => ?_
  cases e with
  | returned y => obtain ⟨cx', r, b0, b1, b2, b3, r', hw, b4⟩ := he; exact ⟨cx', r', b0, b1, b2, b3.weakens hw, b4⟩
  | panicked ch => obtain ⟨cx', x, y, b0, b1, b2, b3, b4, b5⟩ := he; exact ⟨cx', x, y, b0, b1, b2, b3, b4, b5⟩
  | outgrown => exact he
end Go.Mu
namespace Go.Mu
open Go.RowKit (Below)
theorem appendVW_hs {H : List Blk} {sl : TypeId × Nat × List Value × Nat} {k n m : Nat} {es ys : List (List AV)} {K : AV → List Blk → Prop} {w : Wit K} (hk : H[k]? = some (.row sl.1 sl.2.1 es)) (hn : n = es.length) (hm : m = es.length)
    (hb : (es.length + ys.length) * sl.2.2.2 ≤ 140737488355328) (h63 : es.length + ys.length ≤ 9223372036854775807) (h : K (.hs k 0 (es.length + ys.length) (es.length + ys.length)) (H.set k (.row sl.1 sl.2.1 (es ++ ys)))) : appendVW H sl (.hs k 0 n m) ys K w := by
  subst hn; subst hm
  unfold appendVW appendV
  show (match H[k]? with | some (.row t z es') => _ | _ => False)
  rw [hk]
  exact ⟨⟨rfl, rfl, rfl⟩, .inl ⟨⟨rfl, hb, h63⟩, h⟩⟩
theorem tidy_weak {R : AE → List Blk → Prop} {r r' : AV} {H' : List Blk} (hw : Weak r r') (h : R (.ret r') H') : WeakE R (.ret r) H' := ⟨r', hw, h⟩
theorem tidy_now {H : List Blk} {R : AE → List Blk → Prop} {r : AV} (hu : r.under H.length = true) (h : R (.ret r) H) : Tidy H R (.ret r) H := ⟨_, _, .refl _ _, H, [], by simp, Nat.le_refl _, id, hu, h⟩
@[simp] theorem deferV_fn (P : Program) (g : FuncId) (first cap args : List AV) (k : ADef → Prop) : deferV P (.fn (.func g) first cap) args k = k ⟨g, first ++ args ++ cap, none⟩ := rfl
theorem tidy_give1 {H : List Blk} {L : List Blk} {R : AE → List Blk → Prop} {r : AV} (hu : underH H.length H = true) (sz : Nat) (t : TypeId) (es : List (List AV)) (hz : es.flatten.all AV.frzB = true)
    (hun : (r.frz H.length sz es).under H.length = true) (h : R (.ret (r.frz H.length sz es)) H) : Tidy H R (.ret r) (H ++ .row t sz es :: L) := by
  refine tidy_give hu 0 sz t es rfl hz ?_
  exact tidy_same (by simpa using hun) (by simpa using h)
theorem set2_set2 {H : List Blk} {a b : Nat} (ha : a < H.length) (hb : b < H.length) (hab : a ≠ b) (X Y X' Y' : Blk) : set2 (set2 H a X b Y) a X' b Y' = set2 H a X' b Y' := by
  have := m2_set2 ha hb hab X Y X' Y' []
  simpa using this
theorem frz_own (k sz : Nat) (es : List (List AV)) (he : es ≠ []) : (ownS k es).frz k sz es = .vs sz es := by
  rw [ownS, if_neg he]
  simp [AV.frz]
end Go.Mu
