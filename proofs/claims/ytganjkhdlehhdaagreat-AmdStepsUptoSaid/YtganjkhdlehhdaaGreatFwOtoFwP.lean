/- Deferred functions that recover; and rows that are given away at a call's end. -/
import Derived.Test.YtganjkhdlehhdaaGreatFwCptoFwN
import Derived.Recover
set_option linter.unusedVariables false
set_option linter.unusedSimpArgs false
namespace Go.Mu
open Go.RowKit (Below)
def URel (cx : Cx) : FrameMode → Option AV → Prop
  | .returning, none => True
  | .panicking ch, some x => ∃ y, ch = [{ v := y, recovered := false }] ∧ Rep cx false x y
  | _, _ => False
theorem frm_rel {cx : Cx} {n : Nat} {args : List AV} {vals : List Value} (h3 : RepL cx false args vals) (hs3 : args.length ≤ n) : FRel cx n (frm args 0) { tmps := vals.toArray ++ Array.replicate (n - vals.toArray.size) undef, defers := [] } := by
  have hlen : vals.length = args.length := h3.len.symm
  refine ⟨by simp; omega, fun t ht => ?_⟩
  rw [frm_get]
  simp only [Nat.zero_le, if_true, Nat.sub_zero]
  rw [Array.getD_eq_getD_getElem?, Array.getElem?_append]
  by_cases htl : t < vals.length
  · have e1 : args.getD t (.tup []) = args[t]'(by omega) := by simp [List.getD_eq_getElem?_getD, List.getElem?_eq_getElem (show t < args.length by omega)]
    rw [e1, if_pos (by simpa using htl)]
    simp only [List.getElem?_toArray, List.getElem?_eq_getElem htl, Option.getD_some]
    exact h3.rep t _ _ (List.getElem?_eq_getElem (by omega)) (List.getElem?_eq_getElem htl)
  · have e1 : args.getD t (.tup []) = .tup [] := by simp [List.getD_eq_getElem?_getD, List.getElem?_eq_none (show args.length ≤ t by omega)]
    rw [e1, if_neg (by simpa using htl)]
    have : ((Array.replicate (n - vals.toArray.size) undef)[t - vals.toArray.size]?).getD undef = undef := by
      rw [Array.getElem?_replicate]; split <;> rfl
    rw [this]; exact tup_nil_undef _ _
section
variable {P : Program}
end
theorem acalls_under {P : Program} {fid : FuncId} {args : List AV} {H : List Blk} {R : AE → List Blk → Prop} (h : underH H.length H = true → underL H.length args = true → ACalls P fid args H R) : ACalls P fid args H R := by
  intro B w0 cx vals h1 h2 h3
  have hu := h1.under
  have ha := h3.under
  rw [h2] at hu ha
  exact h hu ha B w0 cx vals h1 h2 h3
mutual
theorem frz_id {k sz n : Nat} {es : List (List AV)} (hn : n ≤ k) : ∀ (a : AV), a.under n = true → a.frz k sz es = a
  | .hs k' off m ver, h => by
    simp only [AV.under, decide_eq_true_eq] at h
    simp only [AV.frz]
    rw [if_neg (by omega)]
  | .fn f a b, h => by
    simp only [AV.under, Bool.and_eq_true] at h
    simp only [AV.frz, frzL_id hn a h.1, frzL_id hn b h.2]
  | .ifc t x, h => by simp only [AV.under] at h; simp only [AV.frz, frz_id hn x h]
  | .agg cs, h => by simp only [AV.under] at h; simp only [AV.frz, frzL_id hn cs h]
  | .tup cs, h => by simp only [AV.under] at h; simp only [AV.frz, frzL_id hn cs h]
  | .v x, _ => rfl
  | .vs _ _, _ => rfl
  | .vx _ _, _ => rfl
  | .vp _, _ => rfl
  | .bp _ _, _ => rfl
  | .rp _ _ _ _, _ => rfl
  | .hm _, _ => rfl
  | .hg _, _ => rfl
  | .hi _, _ => rfl
  | .yl _, _ => rfl
  | .bs _ _ _, _ => rfl
  | .junk, _ => rfl
theorem frzL_id {k sz n : Nat} {es : List (List AV)} (hn : n ≤ k) : ∀ (l : List AV), underL n l = true → frzL k sz es l = l
  | [], _ => rfl
  | c :: cs, h => by
    simp only [underL, Bool.and_eq_true] at h
    simp only [frzL, frz_id hn c h.1, frzL_id hn cs h.2]
end
theorem frzB_id {k sz n : Nat} {es : List (List AV)} (hn : n ≤ k) (b : Blk) (h : b.under n = true) : b.frz k sz es = b := by
  cases b with
  | box t cs => simp only [Blk.under] at h; simp only [Blk.frz, frzL_id hn cs h]
  | row t z rs =>
    simp only [Blk.under, List.all_eq_true] at h
    simp only [Blk.frz]
    congr 1
    exact (List.map_congr_left fun r hr => frzL_id hn r (h r hr)).trans (List.map_id _)
  | map ms =>
    simp only [Blk.under, List.all_eq_true] at h
    simp only [Blk.frz]
    congr 1
    exact (List.map_congr_left (g := id) fun p hp => by rw [frz_id hn p.2 (h p hp)]; rfl).trans (List.map_id _)
  | mapg ms =>
    simp only [Blk.under, List.all_eq_true] at h
    simp only [Blk.frz]
    congr 1
    exact (List.map_congr_left (g := id) fun p hp => by rw [frz_id hn p.2 (h p hp)]; rfl).trans (List.map_id _)
  | pend => rfl
  | gone => rfl
  | dfr _ => rfl
  | lp _ _ _ _ _ _ _ => rfl
  | it _ _ _ => rfl
theorem frzH_app {sz : Nat} {es : List (List AV)} {H L : List Blk} (j : Nat) (hu : underH H.length H = true) : frzH (H.length + j) sz es (H ++ L) = H ++ (L.map (Blk.frz (H.length + j) sz es)).set j .gone := by
  unfold frzH
  rw [List.map_append, List.set_append, if_neg (by simp)]
  have : H.map (Blk.frz (H.length + j) sz es) = H := (List.map_congr_left fun b hb => frzB_id (Nat.le_add_right _ _) b (List.all_eq_true.1 hu b hb)).trans (List.map_id _)
  rw [this]
  simp
theorem tidy_give {H L : List Blk} {R : AE → List Blk → Prop} {r : AV} (hu : underH H.length H = true) (j sz : Nat) (t : TypeId) (es : List (List AV)) (hj : L[j]? = some (.row t sz es)) (hz : es.flatten.all AV.frzB = true)
    (h : Tidy H R (.ret (r.frz (H.length + j) sz es)) (H ++ (L.map (Blk.frz (H.length + j) sz es)).set j .gone)) : Tidy H R (.ret r) (H ++ L) := by
  obtain ⟨H1, r1, g, rest⟩ := h
  rw [← frzH_app j hu] at g
  exact ⟨H1, r1, .step _ _ (H.length + j) sz t es _ _ (by rw [List.getElem?_append_right (by omega)]; simpa using hj) hz g, rest⟩
def ownS (k : Nat) (es : List (List AV)) : AV := if es = [] then .v (.slice none 0 0) else .hs k 0 es.length es.length
def ownB (t : TypeId) (sz : Nat) (es : List (List AV)) : Blk := if es = [] then .pend else .row t sz es
@[simp] theorem avCells_ownS (k : Nat) (es : List (List AV)) : avCells (ownS k es) = some [ownS k es] := by unfold ownS; split <;> rfl
@[simp] theorem one_ownS (k : Nat) (es : List (List AV)) : AV.one (ownS k es) = true := by unfold ownS; split <;> rfl
@[simp] theorem ownS_nil (k : Nat) : ownS k [] = .v (.slice none 0 0) := by simp [ownS]
@[simp] theorem ownB_nil (t : TypeId) (sz : Nat) : ownB t sz [] = .pend := by simp [ownB]
theorem under_ownS (n k : Nat) (es : List (List AV)) (h : k < n) : (ownS k es).under n = true := by unfold ownS; split <;> simp [AV.under, h]
theorem set_same {α : Type} {l : List α} {k : Nat} {x : α} (h : l[k]? = some x) : l.set k x = l := by
  apply List.ext_getElem?
  intro i
  by_cases hi : k = i
  · subst hi; rw [set_some h, h]
  · rw [set_other hi]
theorem appendVW_own {H : List Blk} {sl : TypeId × Nat × List Value × Nat} {k : Nat} {es ys : List (List AV)} {K : AV → List Blk → Prop} {w : Wit K} (hk : H[k]? = some (ownB sl.1 sl.2.1 es))
    (hb : (es.length + ys.length) * sl.2.2.2 ≤ 140737488355328) (h63 : es.length + ys.length ≤ 9223372036854775807) (h : K (ownS k (es ++ ys)) (H.set k (ownB sl.1 sl.2.1 (es ++ ys)))) : appendVW H sl (ownS k es) ys K w := by
  unfold appendVW appendV
  by_cases he : es = []
  · subst he
    simp only [ownS, ownB, if_true, List.nil_append, List.length_nil, Nat.zero_add] at *
    refine ⟨fun hy => ?_, fun hy => ⟨hb, h63, .inr ⟨k, hk, ?_⟩⟩⟩
    · subst hy; simp only [if_true] at h; rwa [set_same hk] at h
    · simpa only [if_neg hy] using h
  · have he2 : es ++ ys ≠ [] := by simp [he]
    have hk2 : H[k]? = some (.row sl.1 sl.2.1 es) := by rw [hk, ownB, if_neg he]
    have h2 : K (.hs k 0 (es.length + ys.length) (es.length + ys.length)) (H.set k (.row sl.1 sl.2.1 (es ++ ys))) := by
      rw [ownS, if_neg he2, ownB, if_neg he2, List.length_append] at h; exact h
    rw [ownS, if_neg he]
    show (match H[k]? with | some (.row t z es') => _ | _ => False)
    rw [hk2]
    exact ⟨⟨rfl, rfl, rfl⟩, .inl ⟨⟨rfl, hb, h63⟩, h2⟩⟩
def Cx.spare (cx : Cx) (m : Nat) : Cx := { cx with H := cx.H ++ List.replicate m .pend }
theorem le_spare (cx : Cx) (m : Nat) : Le cx (cx.spare m) :=
  ⟨fun _ _ _ _ h => h, fun _ h => h, fun k bl h hf => ⟨bl, getElem?_append_some h, hf, rfl⟩, fun k t sz es h => .inr ⟨es, getElem?_append_some h, Nat.le_refl _, fun _ => ⟨rfl, rfl⟩⟩⟩
theorem hrel_spare {B : Nat} {w0 : World} {cx : Cx} (h : HRel B w0 cx) (m : Nat) : HRel B w0 (cx.spare m) := by
  have hle := le_spare cx m
  have key : ∀ (i : Nat) (bl : Blk), (cx.spare m).H[i]? = some bl → cx.H[i]? = some bl ∨ bl = Blk.pend := by
    intro i bl hi
    simp only [Cx.spare, List.getElem?_append] at hi
    split at hi
    · exact .inl hi
    · rw [List.getElem?_replicate] at hi
      split at hi
      · cases hi; exact .inr rfl
      · cases hi
  refine ⟨h.below, h.base, h.frz, fun i bl hi => ?_, fun i j b1 b2 a1 a2 l1 l2 he => ?_⟩
  · rcases key i bl hi with hi' | rfl
    · have hb := h.blk i bl hi'
      exact hb.mono hle fun hl => ⟨rfl, rfl, rfl, (hb.lt hl).2.2⟩
    · trivial
  · rcases key i b1 a1 with a1' | rfl
    · rcases key j b2 a2 with a2' | rfl
      · exact h.inj i j b1 b2 a1' a2' l1 l2 he
      · simp [Blk.live] at l2
    · simp [Blk.live] at l1
theorem tidy_to {H H2 L : List Blk} {R : AE → List Blk → Prop} {r : AV} (hl : H.length ≤ H2.length) (hu2 : underH H.length H = true → underH H2.length H2 = true) (hu : r.under H2.length = true) (h : R (.ret r) H2) : Tidy H R (.ret r) (H2 ++ L) :=
  ⟨_, _, .refl _ _, H2, L, rfl, hl, hu2, hu, h⟩
theorem underH_set {n k : Nat} {H : List Blk} {b : Blk} (h : underH n H = true) (hb : b.under n = true) : underH n (H.set k b) = true := by
  simp only [underH, List.all_eq_true] at h ⊢
  intro x hx
  rcases List.mem_or_eq_of_mem_set hx with hx | rfl
  · exact h x hx
  · exact hb
theorem under_ownB (n t sz : Nat) (es : List (List AV)) (h : es.all (underL n) = true) : (ownB t sz es).under n = true := by unfold ownB; split; rfl; exact h
theorem lt_of_get {α : Type} {l : List α} {k : Nat} {x : α} (h : l[k]? = some x) : k < l.length := (List.getElem?_eq_some_iff.1 h).1
structure Hid (p : Prop) : Prop where
  out : p
inductive Weak : AV → AV → Prop
  | refl (a : AV) : Weak a a
  | nil (sz : Nat) : Weak (.v (.slice none 0 0)) (.vs sz [])
  | vx (sz : Nat) (es : List (List AV)) : Weak (.vx sz es) (.vs sz es)
  | agg (cs cs' : List AV) (hl : cs.length = cs'.length) (h : ∀ (j : Nat) c c', cs[j]? = some c → cs'[j]? = some c' → Weak c c') : Weak (.agg cs) (.agg cs')
  | tup (cs cs' : List AV) (hl : cs.length = cs'.length) (h : ∀ (j : Nat) c c', cs[j]? = some c → cs'[j]? = some c' → Weak c c') : Weak (.tup cs) (.tup cs')
  | ifc (t : TypeId) (a a' : AV) (h : Weak a a') : Weak (.ifc t a) (.ifc t a')
  | vs (sz : Nat) (es es' : List (List AV)) (hl : es.length = es'.length) (he : ∀ (j : Nat) e e', es[j]? = some e → es'[j]? = some e' → e.length = e'.length)
      (h : ∀ (j : Nat) c c', es.flatten[j]? = some c → es'.flatten[j]? = some c' → Weak c c') : Weak (.vs sz es) (.vs sz es')
structure WeakL (cs cs' : List AV) : Prop where
  len : cs.length = cs'.length
  weak : ∀ (j : Nat) c c', cs[j]? = some c → cs'[j]? = some c' → Weak c c'
theorem WeakL.nil : WeakL [] [] := ⟨rfl, fun j c c' h => by simp at h⟩
theorem WeakL.refl (cs : List AV) : WeakL cs cs := ⟨rfl, fun j c c' h h' => by rw [h] at h'; cases h'; exact .refl _⟩
theorem WeakL.cons {a a' : AV} {cs cs' : List AV} (h : Weak a a') (hs : WeakL cs cs') : WeakL (a :: cs) (a' :: cs') := by
  refine ⟨by simp [hs.len], fun j c c' h1 h2 => ?_⟩
  cases j with
  | zero => simp at h1 h2; subst h1; subst h2; exact h
  | succ j => exact hs.weak j c c' (by simpa using h1) (by simpa using h2)
theorem Weak.tupL {cs cs' : List AV} (h : WeakL cs cs') : Weak (.tup cs) (.tup cs') := .tup _ _ h.len h.weak
inductive WeakR : List (List AV) → List (List AV) → Prop
  | nil : WeakR [] []
  | cons {e e' : List AV} {es es' : List (List AV)} (h : WeakL e e') (hs : WeakR es es') : WeakR (e :: es) (e' :: es')
theorem Rep.weakens {cx : Cx} {a a' : AV} (hw : Weak a a') : ∀ {z : Bool} {y : Value}, Rep cx z a y → Rep cx z a' y := by
  induction hw with
  | refl a => exact fun h => h
  | nil sz => intro z y h; obtain rfl : y = .slice none 0 0 := by cases h; rfl
              exact .vs0 sz none 0
  | vx sz es =>
    intro z y hr
    cases hr with
    | vx _ _ b o vals hf hz hll hn ho hc hv => exact .vs sz es b o es.length vals hf hz (Nat.le_refl _) hll hn ho hc hv
  | agg cs cs' hl h ih =>
    intro z y hr
    cases hr with
    | agg _ vals hn hv =>
      refine .agg cs' vals (by omega) fun j c x h1 h2 => ?_
      have hj : j < cs.length := by have := (List.getElem?_eq_some_iff.1 h1).1; omega
      exact ih j _ c (List.getElem?_eq_getElem hj) h1 (hv j _ x (List.getElem?_eq_getElem hj) h2)
  | tup cs cs' hl h ih =>
    intro z y hr
    cases hr with
    | tup _ vals hn hv =>
      refine .tup cs' vals (by omega) fun j c x h1 h2 => ?_
      have hj : j < cs.length := by have := (List.getElem?_eq_some_iff.1 h1).1; omega
      exact ih j _ c (List.getElem?_eq_getElem hj) h1 (hv j _ x (List.getElem?_eq_getElem hj) h2)
  | ifc t a a' h ih =>
    intro z y hr
    cases hr with
    | ifc _ _ y hr => exact .ifc t a' y (ih hr)
  | vs sz es es' hl he h ih =>
    intro z y hr
    have hflat : es.flatten.length = es'.flatten.length := by
      clear h ih hr
      induction es generalizing es' with
      | nil => cases es' with
        | nil => rfl
        | cons a l => simp at hl
      | cons a l ihl => cases es' with
        | nil => simp at hl
        | cons a' l' =>
          simp only [List.flatten_cons, List.length_append]
          rw [he 0 a a' rfl rfl, ihl l' (by simpa using hl) (fun j e e' h1 h2 => he (j + 1) e e' (by simpa using h1) (by simpa using h2))]
    generalize hx : AV.vs sz es = x at hr
    cases hr <;> first | (cases hx; done) | skip
    · cases hx
      obtain rfl : es' = [] := List.eq_nil_of_length_eq_zero (by simpa using hl.symm)
      exact .vs0 sz _ _
    · rename_i b off cap vals hf hz hcap hll hn ho hc hv
      cases hx
      have := Rep.vs (cx := cx) (z := z) sz es' b off cap vals hf hz (by omega) (fun e' hm => by
        obtain ⟨j, hj, rfl⟩ := List.getElem_of_mem hm
        rw [← he j _ _ (List.getElem?_eq_getElem (by omega)) (List.getElem?_eq_getElem hj)]
        exact hll _ (List.getElem_mem _)) (by omega) ho hc (fun j c x h1 h2 => by
        have hj : j < es.flatten.length := by have := (List.getElem?_eq_some_iff.1 h1).1; omega
        exact ih j _ c (List.getElem?_eq_getElem hj) h1 (hv j _ x (List.getElem?_eq_getElem hj) h2))
      rw [hl]; exact this
theorem RepL.weakens {cx : Cx} {z : Bool} {cs cs' : List AV} {vals : List Value} (hw : WeakL cs cs') (h : RepL cx z cs vals) : RepL cx z cs' vals := by
  refine ⟨by rw [← hw.len]; exact h.len, fun j c x h1 h2 => ?_⟩
  have hj : j < cs.length := by have := (List.getElem?_eq_some_iff.1 h1).1; have := hw.len; omega
  exact Rep.weakens (hw.weak j _ c (List.getElem?_eq_getElem hj) h1) (h.rep j _ x (List.getElem?_eq_getElem hj) h2)
theorem acalls_weak {P : Program} {fid : FuncId} {args args' : List AV} {H : List Blk} {R : AE → List Blk → Prop} (hw : WeakL args args') (h : ACalls P fid args' H R) : ACalls P fid args H R :=
  fun B w0 cx vals h1 h2 h3 => h B w0 cx vals h1 h2 (h3.weakens hw)
def WeakE (R : AE → List Blk → Prop) : AE → List Blk → Prop := fun e H' => match e with | .ret r => ∃ r', Weak r r' ∧ R (.ret r') H' | .pan x => R (.pan x) H'
theorem acalls_weakE {P : Program} {fid : FuncId} {args : List AV} {H : List Blk} {R : AE → List Blk → Prop} (h : ACalls P fid args H (WeakE R)) : ACalls P fid args H R := by
  intro B w0 cx vals h1 h2 h3
  refine (h B w0 cx vals h1 h2 h3).mono fun e w' he => ?_
  cases e with
  | returned y => obtain ⟨cx', r, b0, b1, b2, b3, r', hw, b4⟩ := he; exact ⟨cx', r', b0, b1, b2, b3.weakens hw, b4⟩
  | panicked ch => obtain ⟨cx', x, y, b0, b1, b2, b3, b4, b5⟩ := he; exact ⟨cx', x, y, b0, b1, b2, b3, b4, b5⟩
  | outgrown => exact he
end Go.Mu
namespace Go.Mu
open Go.RowKit (Below)
theorem appendVW_hs {H : List Blk} {sl : TypeId × Nat × List Value × Nat} {k n m : Nat} {es ys : List (List AV)} {K : AV → List Blk → Prop} {w : Wit K} (hk : H[k]? = some (.row sl.1 sl.2.1 es)) (hn : n = es.length) (hm : m = es.length)
    (hb : (es.length + ys.length) * sl.2.2.2 ≤ 140737488355328) (h63 : es.length + ys.length ≤ 9223372036854775807) (h : K (.hs k 0 (es.length + ys.length) (es.length + ys.length)) (H.set k (.row sl.1 sl.2.1 (es ++ ys)))) : appendVW H sl (.hs k 0 n m) ys K w := by
  subst hn; subst hm
  unfold appendVW appendV
  show (match H[k]? with | some (.row t z es') => _ | _ => False)
  rw [hk]
  exact ⟨⟨rfl, rfl, rfl⟩, .inl ⟨⟨rfl, hb, h63⟩, h⟩⟩
theorem tidy_weak {R : AE → List Blk → Prop} {r r' : AV} {H' : List Blk} (hw : Weak r r') (h : R (.ret r') H') : WeakE R (.ret r) H' := ⟨r', hw, h⟩
theorem tidy_now {H : List Blk} {R : AE → List Blk → Prop} {r : AV} (hu : r.under H.length = true) (h : R (.ret r) H) : Tidy H R (.ret r) H := ⟨_, _, .refl _ _, H, [], by simp, Nat.le_refl _, id, hu, h⟩
@[simp] theorem deferV_fn (P : Program) (g : FuncId) (first cap args : List AV) (k : ADef → Prop) : deferV P (.fn (.func g) first cap) args k = k ⟨g, first ++ args ++ cap, none⟩ := rfl
theorem tidy_give1 {H : List Blk} {L : List Blk} {R : AE → List Blk → Prop} {r : AV} (hu : underH H.length H = true) (sz : Nat) (t : TypeId) (es : List (List AV)) (hz : es.flatten.all AV.frzB = true)
    (hun : (r.frz H.length sz es).under H.length = true) (h : R (.ret (r.frz H.length sz es)) H) : Tidy H R (.ret r) (H ++ .row t sz es :: L) := by
  refine tidy_give hu 0 sz t es rfl hz ?_
  exact tidy_same (by simpa using hun) (by simpa using h)
theorem frz_own (k sz : Nat) (es : List (List AV)) (he : es ≠ []) : (ownS k es).frz k sz es = .vs sz es := by
  rw [ownS, if_neg he]
  simp [AV.frz]
end Go.Mu
