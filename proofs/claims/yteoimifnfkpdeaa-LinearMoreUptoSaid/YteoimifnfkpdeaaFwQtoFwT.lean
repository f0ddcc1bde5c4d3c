/- Rows that may be empty are given away at a call's end. -/
import Derived.Test.YteoimifnfkpdeaaFwOtoFwP
set_option linter.unusedVariables false
set_option linter.unusedSimpArgs false
namespace Go.Mu
theorem under_frzB (n : Nat) : ∀ (a : AV), a.frzB = true → a.under n = true
  | .v _, _ => rfl
  | .vs _ _, _ => rfl
  | .vx _ _, _ => rfl
  | .vp _, _ => rfl
  | .junk, _ => rfl
  | .ifc _ x, h => by simp only [AV.frzB] at h; simp only [AV.under]; exact under_frzB n x h
  | .agg [], _ => rfl
  | .agg (_ :: _), h => by simp [AV.frzB] at h
  | .tup _, h => by simp [AV.frzB] at h
  | .bp _ _, h => by simp [AV.frzB] at h
  | .rp _ _ _ _, h => by simp [AV.frzB] at h
  | .hs _ _ _ _, h => by simp [AV.frzB] at h
  | .hm _, h => by simp [AV.frzB] at h
  | .hg _, h => by simp [AV.frzB] at h
  | .hi _, h => by simp [AV.frzB] at h
  | .fn _ _ _, h => by simp [AV.frzB] at h
theorem underL_frzB (n : Nat) (l : List AV) (h : ∀ c ∈ l, c.frzB = true) : underL n l = true := by
  rw [underL_all, List.all_eq_true]
  exact fun c hc => under_frzB n c (h c hc)
def Gv (sz : Nat) (es : List (List AV)) (x : AV) : Prop := (x = .v (.slice none 0 0) ∧ es = []) ∨ x = .vs sz es
theorem frz_ownS_ne {k k' sz : Nat} {es es' : List (List AV)} (h : k ≠ k') : (ownS k es).frz k' sz es' = ownS k es := by
  unfold ownS; split
  · rfl
  · simp only [AV.frz]; rw [if_neg (fun hh => h hh.1)]
theorem under_ownB_plain {t sz : Nat} {n : Nat} {es : List (List AV)} (h : es.flatten.all AV.frzB = true) : (ownB t sz es).under n = true := by
  refine under_ownB n t sz es ?_
  rw [List.all_eq_true] at h ⊢
  intro e he
  exact underL_frzB n e (fun c hc => h c (List.mem_flatten.2 ⟨e, he, hc⟩))
end Go.Mu
namespace Go.Mu
open Go.RowKit (Below)
def updL : Fr → List Nat → List AV → Fr
  | f, t :: ts, a :: as' => updL (upd f t a) ts as'
  | f, _, _ => f
@[simp] theorem updL_cons (f : Fr) (t : Nat) (ts : List Nat) (a : AV) (as' : List AV) : updL f (t :: ts) (a :: as') = updL (upd f t a) ts as' := rfl
end Go.Mu
namespace Go.Mu
end Go.Mu
namespace Go.Mu
section
variable {P : Program} {hn : Nat → Bool} {od : Nat → Option OPlan}
theorem acalls_of_awp {fid : FuncId} {fn : Func} {c : Code} {args : List AV} {H : List Blk} {R : AE → List Blk → Prop} (hf : P.funcs[fid]? = some fn) (hb : fn.body = some c)
    (hs : (fn.results.toList.all (resOk fn.ntmps) && decide (args.length ≤ fn.ntmps)) = true)
    (h : AWP P fn.ntmps c (retQ P fn.results.toList R) (frm args 0) H []) : ACalls P fid args H R := by
  simp only [Bool.and_eq_true, decide_eq_true_eq] at hs
  obtain ⟨hs2, hs3⟩ := hs
  intro B w0 cx vals h1 h2 h3
  refine calls_of_wp hf hb ?_
  refine wp_mono (fo_wp.1 (h none (fun hs => by cases hs) B w0 cx cx _ h1 (Le.refl _) h2 (frm_rel h3 hs3) trivial)) fun e a' w' hp => ?_
  obtain ⟨cx', x, f', ds', rfl, b1, b2, b3, b4, b5, b6⟩ := hp
  have dnil : ds' = [] → a'.defers = [] := fun hd => by
    subst hd
    cases hdd : a'.defers with
    | nil => rfl
    | cons d l => rw [hdd] at b4; exact b4.elim
  cases e <;> cases x <;> first | exact b5.elim | skip
  · obtain ⟨hd, xs, hx, hR⟩ := b6
    obtain ⟨y, hy, hr⟩ := results_rep (P := P) b1 b3 hs2 hx
    exact ⟨dnil hd, y, hy, cx', _, rfl, b1, b2, hr, hR⟩
  · exact b6.elim
  · exact b6.elim
  · obtain ⟨hd, xs, hx, hR⟩ := b6
    obtain ⟨y, hy, hr⟩ := results_rep (P := P) b1 b3 hs2 hx
    exact ⟨dnil hd, y, hy, cx', _, rfl, b1, b2, hr, hR⟩
  · obtain ⟨hd, hR⟩ := b6
    obtain ⟨y, hch, hr⟩ := b5
    exact ⟨dnil hd, cx', _, y, rfl, b1, b2, hch, hr, hR⟩
def cutQ (I : Fr → List Blk → Prop) (ds : List ADef) (Q : AQ) : AQ := fun x f H ds' => match x with | .normal => ds' = ds ∧ I f H | x => Q x f H ds'
theorem awp_cut {n : Nat} {a b : Code} {Q : AQ} {f : Fr} {H : List Blk} {ds : List ADef} (hn : Nat → Bool) (od : Nat → Option OPlan) (I : Fr → List Blk → Prop) (hs : (smallC hn od n a && P.follows .mixedOrders) = true)
    (h1 : vcC P hn od n a (cutQ I ds Q) f H ds) (h2 : ∀ f H, I f H → AWP P n b Q f H ds) : AWP P n (.seq a b) Q f H ds := by
  simp only [Bool.and_eq_true] at hs
  refine awp_seq ((vcC_sound hs.2 hs.1 h1).mono fun x f H ds' hx => ?_)
  cases x with
  | normal => obtain ⟨rfl, hI⟩ := hx; exact h2 f H hI
  | _ => exact hx
theorem awp_cutA {n : Nat} {a b : Code} {Q : AQ} {f : Fr} {H : List Blk} {ds : List ADef} (I : Fr → List Blk → Prop)
    (h1 : AWP P n a (cutQ I ds Q) f H ds) (h2 : ∀ f H, I f H → AWP P n b Q f H ds) : AWP P n (.seq a b) Q f H ds := by
  refine awp_seq (h1.mono fun x f H ds' hx => ?_)
  cases x with
  | normal => obtain ⟨rfl, hI⟩ := hx; exact h2 f H hI
  | _ => exact hx
theorem awp_all {n : Nat} {a : Code} {Q : AQ} {f : Fr} {H : List Blk} {ds : List ADef} (hn : Nat → Bool) (od : Nat → Option OPlan) (hs : (smallC hn od n a && P.follows .mixedOrders) = true)
    (h1 : vcC P hn od n a Q f H ds) : AWP P n a Q f H ds := by
  simp only [Bool.and_eq_true] at hs
  exact vcC_sound hs.2 hs.1 h1
@[simp ↓] theorem QW_cutN (I : Fr → List Blk → Prop) (ds0 : List ADef) (Q : AQ) (f : Fr) (H : List Blk) (ds : List ADef) (w : Wit (cutQ I ds0 Q, AX.normal, f, H, ds)) : QW (cutQ I ds0 Q) .normal f H ds w = (ds = ds0 ∧ I f H) := (rfl)
@[simp ↓] theorem QW_cutR (I : Fr → List Blk → Prop) (ds0 : List ADef) (Q : AQ) (f : Fr) (H : List Blk) (ds : List ADef) (w : Wit (cutQ I ds0 Q, AX.ret, f, H, ds)) : QW (cutQ I ds0 Q) .ret f H ds w = QW Q .ret f H ds (wit _) := (rfl)
end
end Go.Mu
