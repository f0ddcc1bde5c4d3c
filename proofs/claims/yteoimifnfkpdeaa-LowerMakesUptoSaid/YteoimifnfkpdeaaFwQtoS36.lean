/- Rows that may be empty are given away at a call's end. -/
import Derived.Test.YteoimifnfkpdeaaFwOtoFwP
import Derived.Test.YteoimifnfkpdeaaS25toL2
set_option linter.unusedVariables false
set_option linter.unusedSimpArgs false
set_option maxHeartbeats 4000000
set_option maxRecDepth 100000
namespace Go.Mu
@[simp] theorem idxVal_agg (cs : List AV) (agg : Bool) (len sz : Nat) (i : Int) : idxVal (.agg cs) agg len sz i = if 0 ≤ i ∧ i < len then partA agg sz (i.toNat * sz) cs else none := (rfl)
theorem under_frzB (n : Nat) : ∀ (a : AV), a.frzB = true → a.under n = true
  | .v _, _ => rfl
  | .vs _ _, _ => rfl
  | .vx _ _, _ => rfl
  | .vp _, _ => rfl
  | .junk, _ => rfl
  | .ifc _ x, h => by simp only [AV.frzB] at h; simp only [AV.under]; exact under_frzB n x h
  | .agg [], _ => rfl
  | .agg (_ :: _), h => by simp [AV.frzB] at h
  | .tup _, h => by simp [AV.frzB] at h
  | .bp _ _, h => by simp [AV.frzB] at h
  | .rp _ _ _ _, h => by simp [AV.frzB] at h
  | .hs _ _ _ _, h => by simp [AV.frzB] at h
  | .hm _, h => by simp [AV.frzB] at h
  | .hi _, h => by simp [AV.frzB] at h
  | .fn _ _ _, h => by simp [AV.frzB] at h
theorem underL_frzB (n : Nat) (l : List AV) (h : ∀ c ∈ l, c.frzB = true) : underL n l = true := by
  rw [underL_all, List.all_eq_true]
  exact fun c hc => under_frzB n c (h c hc)
/-- What a row that the call made is once it is given away: nil, or a list. -/
def Gv (sz : Nat) (es : List (List AV)) (x : AV) : Prop := (x = .v (.slice none 0 0) ∧ es = []) ∨ x = .vs sz es
theorem Gv.weak {sz : Nat} {es : List (List AV)} {x : AV} (h : Gv sz es x) : Weak x (.vs sz es) := by
  rcases h with ⟨rfl, rfl⟩ | rfl
  · exact .nil sz
  · exact .refl _
theorem Gv.frz {sz : Nat} {es : List (List AV)} {x : AV} (h : Gv sz es x) (k sz' : Nat) (es' : List (List AV)) : x.frz k sz' es' = x := by
  rcases h with ⟨rfl, rfl⟩ | rfl <;> rfl
theorem Gv.under {sz : Nat} {es : List (List AV)} {x : AV} (h : Gv sz es x) (n : Nat) : x.under n = true := by
  rcases h with ⟨rfl, rfl⟩ | rfl <;> rfl
theorem frz_ownS_ne {k k' sz : Nat} {es es' : List (List AV)} (h : k ≠ k') : (ownS k es).frz k' sz es' = ownS k es := by
  unfold ownS; split
  · rfl
  · simp only [AV.frz]; rw [if_neg (fun hh => h hh.1)]
theorem tidy_giveO {H L : List Blk} {R : AE → List Blk → Prop} {f : AV → AV} (hu : underH H.length H = true) (j sz : Nat) (t : TypeId) (es : List (List AV)) (hj : L[j]? = some (ownB t sz es)) (hz : es.flatten.all AV.frzB = true)
    (hf : ∀ x, (f x).frz (H.length + j) sz es = f (x.frz (H.length + j) sz es))
    (h : ∀ x L', Gv sz es x → (∀ i b, i ≠ j → L[i]? = some b → b.under H.length = true → L'[i]? = some b) → Tidy H R (.ret (f x)) (H ++ L')) : Tidy H R (.ret (f (ownS (H.length + j) es))) (H ++ L) := by
  by_cases hes : es = []
  · subst hes
    rw [ownS_nil]
    exact h _ L (.inl ⟨rfl, rfl⟩) (fun i b _ hb _ => hb)
  · rw [ownB, if_neg hes] at hj
    refine tidy_give hu j sz t es hj hz ?_
    rw [hf, frz_own _ _ _ hes]
    refine h _ _ (.inr rfl) fun i b hi hb hbu => ?_
    rw [List.getElem?_set_ne (fun e => hi e.symm), List.getElem?_map, hb]
    simp only [Option.map_some, frzB_id (Nat.le_add_right _ _) b hbu]
theorem under_ownB_plain {t sz : Nat} {n : Nat} {es : List (List AV)} (h : es.flatten.all AV.frzB = true) : (ownB t sz es).under n = true := by
  refine under_ownB n t sz es ?_
  rw [List.all_eq_true] at h ⊢
  intro e he
  exact underL_frzB n e (fun c hc => h c (List.mem_flatten.2 ⟨e, he, hc⟩))
end Go.Mu
namespace Go.Proofs
open Go.Mu
@[ext] structure Asm where
  code : List Amd
  params : List Int
  rets : List Int
  frame : Int
deriving DecidableEq
@[simp] def Asm.cells (a : Asm) : List AV := [Amd.sl a.code, Int.sl a.params, Int.sl a.rets, I a.frame]
/-- A table in which a number is put in place of what it was, or behind all. -/
def putT : List (Int × Int) → Int → Int → List (Int × Int)
  | [], k, v => [(k, v)]
  | (a, b) :: l, k, v => if k = a then (k, v) :: l else (a, b) :: putT l k v
theorem tab_set (k v : Int) (l : List (Int × Int)) : mset (.int .i64) (.int .i64 k) (I v) (tabM l) = some (tabM (putT l k v)) := by
  induction l with
  | nil => rfl
  | cons p l ih =>
    obtain ⟨a, b⟩ := p
    have : tabM ((a, b) :: l) = (.int .i64 a, I b) :: tabM l := rfl
    rw [this, mset, sameNow_i64, putT]
    by_cases h : k = a
    · subst h; simp [tabM]
    · have e : (k == a) = false := by simp [h]
      rw [e, if_neg h]; simp only [ih]; rfl
theorem putT_len (k v : Int) (l : List (Int × Int)) : (putT l k v).length ≤ l.length + 1 := by
  induction l with
  | nil => simp [putT]
  | cons p l ih => obtain ⟨a, b⟩ := p; rw [putT]; split <;> simp; omega
/-- Labels' numbers, in the order in which they stand. -/
def labTab : List Line → List (Int × Int) → List (Int × Int)
  | [], t => t
  | x :: c, t => labTab c (if x.kind = 2 then putT t x.label t.length else t)
def labNo (c : List Line) (v : Int) : Int := ((labTab c []).lookup v).getD 0
def endsL (c : List Line) : Bool := match c.getLast? with | some x => x.kind == 5 | none => false
abbrev retA : Amd := amd 20 0 0 0 0 0
def makeA (l : Linear) : Asm := ⟨l.code.flatMap (fun x => lineL x (labNo l.code x.label)) ++ (if endsL l.code = true then [] else [retA]), l.params.map regOf, l.rets.map regOf, l.frame⟩
def lowerMake (l : Linear) : Asm × Int := if wrongL l ≠ 0 then (⟨[], [], [], 0⟩, wrongL l) else (makeA l, 0)
theorem paramsOk_mem {vars : Int} : ∀ {l seen : List Int}, paramsOk vars seen l = true → ∀ v ∈ l, isV v vars = true
  | [], _, _, v, hv => by simp at hv
  | x :: l, seen, h, v, hv => by
    simp only [paramsOk, Bool.and_eq_true] at h
    rcases List.mem_cons.1 hv with rfl | hv
    · exact h.1.1
    · exact paramsOk_mem h.2 v hv
theorem plain_in {n : Int} {x : Line} (hn : n ≤ 11) (h : plainL n x = true) : LineIn x := by
  refine line_in ?_
  have mono : ∀ {v}, isV v n = true → isV v 11 = true := by intro v hv; simp [isV] at hv ⊢; omega
  have monoI : insOk n x.ins = true → insOk 11 x.ins = true := by
    intro h
    simp only [insOk, Bool.or_eq_true, Bool.and_eq_true, beq_iff_eq, Bool.not_eq_true'] at h ⊢
    rcases h with (((h | h) | h) | h) | h
    · simp [h, mono h.1.1.1.1.1.2]
    · simp [h, mono h.1.1.1.1.1.1.2, mono h.1.1.1.1.1.2]
    · have a1 := mono h.1.1.1.1.2
      have a2 := mono h.1.1.1.2
      rcases h with ⟨h, (h' | h') | h'⟩
      · simp [h, h', a1, a2]
      · simp [h, h', a1, a2, mono h'.1.2]
      · simp [h, h', a1, a2, mono h'.1.2, mono h'.2]
    · have a1 := mono h.1.1.1.1.2
      rcases h.1.1.1.2 with h' | h'
      · simp [h, h', a1]
      · simp [h, h', a1, mono h']
    · have a1 := mono h.1.1.2
      rcases h.1.1.1.2 with h' | h'
      · simp [h, h', a1]
      · simp [h, h', a1, mono h']
  unfold plainL at h ⊢
  split
  · rename_i h1; rw [if_pos h1] at h; simp only [Bool.and_eq_true] at h ⊢; exact ⟨⟨monoI h.1.1, h.1.2⟩, h.2⟩
  · rename_i h1; rw [if_neg h1] at h
    split
    · rename_i h2; rw [if_pos h2] at h; exact h
    · rename_i h2; rw [if_neg h2] at h
      split
      · rename_i h3; rw [if_pos h3] at h; exact h
      · rename_i h3; rw [if_neg h3] at h
        split
        · rename_i h4; rw [if_pos h4] at h; simp only [Bool.and_eq_true] at h ⊢; exact ⟨⟨h.1.1, mono h.1.2⟩, h.2⟩
        · rename_i h4; rw [if_neg h4] at h; exact h
theorem refLines_mem {l : Linear} : ∀ {c : List Line} {i : Nat}, refLines l c i = true → ∀ x ∈ c, plainL l.vars x = true
  | [], _, _, x, hx => by simp at hx
  | y :: c, i, h, x, hx => by
    rw [refLines, refLine_eq] at h
    simp only [Bool.and_eq_true] at h
    rcases List.mem_cons.1 hx with rfl | hx
    · exact h.1.1.1
    · exact refLines_mem h.2 x hx
theorem wrong_zero {l : Linear} (h : wrongL l = 0) : l.ok = true ∧ l.vars ≤ 11 ∧ l.code.any longIns = false := by
  unfold wrongL at h
  split at h
  · cases h
  · split at h
    · cases h
    · split at h
      · cases h
      · rename_i a b c; exact ⟨by simpa using a, by omega, by simpa using c⟩
theorem ok_lines {l : Linear} (h : l.ok = true) : ∀ x ∈ l.code, plainL l.vars x = true := by
  rw [← refOk_eq] at h
  simp only [Linear.refOk, Bool.and_eq_true] at h
  exact refLines_mem h.2
theorem wrong_lines {l : Linear} (h : wrongL l = 0) : ∀ x ∈ l.code, LineIn x :=
  fun x hx => plain_in (wrong_zero h).2.1 (ok_lines (wrong_zero h).1 x hx)
theorem ok_head {l : Linear} (h : l.ok = true) : headOk l.vars l.params l.rets l.frame = true := by
  have hh : (Flat.mk l.vars l.params l.rets l.frame []).ok = headOk l.vars l.params l.rets l.frame := by simp [Flat.ok, nodesCount, nodesOk]
  simp only [Linear.ok, Bool.and_eq_true] at h
  rw [← hh]; exact h.1.2
theorem wrong_regs {l : Linear} (h : wrongL l = 0) : (∀ v ∈ l.params, R11 v) ∧ (∀ v ∈ l.rets, R11 v) := by
  have hv := (wrong_zero h).2.1
  have hh := ok_head (wrong_zero h).1
  simp only [headOk, Bool.and_eq_true, List.all_eq_true] at hh
  constructor
  · intro v hm; have := paramsOk_mem hh.1.2 v hm; simp [isV] at this; constructor <;> omega
  · intro v hm; have := hh.2 v hm; simp [isV] at this; constructor <;> omega
theorem lineL_len (x : Line) (v : Int) : (lineL x v).length ≤ 4 := by
  simp only [lineL, doesL]
  repeat' split
  all_goals simp
theorem flat_len (c : List Line) (f : Line → Int) : (c.flatMap fun x => lineL x (f x)).length ≤ 4 * c.length := by
  induction c with
  | nil => simp
  | cons x c ih => have := lineL_len x (f x); simp only [List.flatMap_cons, List.length_append, List.length_cons]; omega
theorem int_frz (l : List Int) : (l.map fun n => [I n]).flatten.all AV.frzB = true := by
  induction l with
  | nil => rfl
  | cons a l ih => simp
theorem amd_frz (l : List Amd) : (l.map Amd.cells).flatten.all AV.frzB = true := by
  induction l with
  | nil => rfl
  | cons a l ih => simp
end Go.Proofs
namespace Go.Proofs
open Go.Mu
def Linear.short (l : Linear) : Bool := decide (l.code.length ≤ 400) && decide (l.params.length ≤ 100) && decide (l.rets.length ≤ 100) && decide (l.vars ≤ 2000)
theorem short_lin_ok (l : Linear) (H : List Blk) : ACalls Try.prog 23 [.agg l.cells] H (fun e H' => e = .ret (Bo l.short) ∧ H' = H) := by
  refine acalls_tidy (acalls_of_vc (hn := fun _ => false) (od := fun _ => none) Try.func23 rfl (by kernel_rfl) ?_)
  simp -dsimp
  repeat' ((with_reducible first | refine And.intro ?_ ?_ | refine guardVW_introTD (fun _ => ?_) (fun _ => ?_) | refine guardVW_introFD (fun _ => ?_) (fun _ => ?_) | refine condVW_introD (fun _ => ?_) (fun _ => ?_) | refine guardVW_introTE (fun _ => ?_) (fun _ _ _ => ?_) | refine guardVW_introFE (fun _ => ?_) (fun _ _ _ => ?_) | refine condVW_introE (fun _ => ?_) (fun _ _ _ => ?_) | refine guardVW_introTNE (fun _ _ _ => ?_) (fun _ => ?_) | refine guardVW_introFNE (fun _ _ _ => ?_) (fun _ => ?_) | refine condVW_introNE (fun _ _ _ => ?_) (fun _ => ?_) | refine guardVW_introTB (fun _ => ?_) (fun _ => ?_) | refine guardVW_introFB (fun _ => ?_) (fun _ => ?_) | refine condVW_introB (fun _ => ?_) (fun _ => ?_) | refine guardVW_introT (fun _ => ?_) (fun _ => ?_) | refine guardVW_introF (fun _ => ?_) (fun _ => ?_) | refine condVW_intro (fun _ => ?_) (fun _ => ?_)) <;> simp -dsimp [*])
  all_goals refine tidy_same rfl ⟨?_, rfl⟩
  all_goals (congr 3; rw [Bool.eq_iff_iff]; simp [Linear.short]; omega)
/-- The memory of the call's own: three rows, what lies behind them, a box, and more. -/
def mkM (H A : List Blk) (c p r : List (List AV)) (bx : Blk) (X : List Blk) : List Blk := H ++ (ownB 69 13 c :: ownB 46 1 p :: ownB 46 1 r :: (A ++ bx :: X))
section
variable {H A : List Blk} {c p r c' : List (List AV)} {bx bx' : Blk} {X : List Blk}
theorem mkM_len : (mkM H A c p r bx X).length = H.length + 4 + A.length + X.length := by simp [mkM]; omega
theorem mkM_app (Y : List Blk) : mkM H A c p r bx X ++ Y = mkM H A c p r bx (X ++ Y) := by simp [mkM]
theorem mkM_r0 : (mkM H A c p r bx X)[H.length]? = some (ownB 69 13 c) := by simp [mkM]
theorem mkM_r1 : (mkM H A c p r bx X)[H.length + 1]? = some (ownB 46 1 p) := by simp [mkM]
theorem mkM_r2 : (mkM H A c p r bx X)[H.length + 2]? = some (ownB 46 1 r) := by simp [mkM]
theorem mkM_a {j : Nat} {b : Blk} (h : A[j]? = some b) : (mkM H A c p r bx X)[H.length + (3 + j)]? = some b := by
  have hj := (List.getElem?_eq_some_iff.1 h).1
  rw [mkM, List.getElem?_append_right (by omega), show H.length + (3 + j) - H.length = j + 1 + 1 + 1 by omega]
  simp only [List.getElem?_cons_succ]
  rw [List.getElem?_append_left hj, h]
theorem mkM_sa {j : Nat} {b : Blk} (h : j < A.length) : (mkM H A c p r bx X).set (H.length + (3 + j)) b = mkM H (A.set j b) c p r bx X := by
  rw [mkM, List.set_append_right _ _ (by omega), show H.length + (3 + j) - H.length = j + 1 + 1 + 1 by omega]
  simp only [List.set_cons_succ]
  rw [List.set_append_left _ _ h]; rfl
theorem mkM_bx : (mkM H A c p r bx X)[H.length + (3 + A.length)]? = some bx := by
  rw [mkM, List.getElem?_append_right (by omega), show H.length + (3 + A.length) - H.length = A.length + 1 + 1 + 1 by omega]
  simp only [List.getElem?_cons_succ]
  rw [List.getElem?_append_right (by omega)]; simp
theorem mkM_x (i : Nat) : (mkM H A c p r bx X)[H.length + 4 + A.length + i]? = X[i]? := by
  rw [mkM, List.getElem?_append_right (by omega), show H.length + 4 + A.length + i - H.length = A.length + 1 + i + 1 + 1 + 1 by omega]
  simp only [List.getElem?_cons_succ]
  rw [List.getElem?_append_right (by omega), show A.length + 1 + i - A.length = i + 1 by omega, List.getElem?_cons_succ]
theorem mkM_sx (i : Nat) (Y : Blk) : (mkM H A c p r bx X).set (H.length + 4 + A.length + i) Y = mkM H A c p r bx (X.set i Y) := by
  rw [mkM, List.set_append_right _ _ (by omega), show H.length + 4 + A.length + i - H.length = A.length + 1 + i + 1 + 1 + 1 by omega]
  simp only [List.set_cons_succ]
  rw [List.set_append_right _ _ (by omega), show A.length + 1 + i - A.length = i + 1 by omega, List.set_cons_succ]; rfl
theorem set_end (a b : Blk) : (X ++ [a]).set X.length b = X ++ [b] := by simp
theorem mkM_s0 : (mkM H A c p r bx X).set H.length (ownB 69 13 c') = mkM H A c' p r bx X := by simp [mkM]
theorem mkM_s1 : (mkM H A c p r bx X).set (H.length + 1) (ownB 46 1 c') = mkM H A c c' r bx X := by simp [mkM]
theorem mkM_s2 : (mkM H A c p r bx X).set (H.length + 2) (ownB 46 1 c') = mkM H A c p c' bx X := by simp [mkM]
theorem mkM_sb : (mkM H A c p r bx X).set (H.length + (3 + A.length)) bx' = mkM H A c p r bx' X := by
  rw [mkM, List.set_append_right _ _ (by omega), show H.length + (3 + A.length) - H.length = A.length + 1 + 1 + 1 by omega]
  simp only [List.set_cons_succ]
  rw [List.set_append_right _ _ (by omega)]; simp [mkM]
end
theorem lowerMake_ok (l : Linear) (hp : l.params.length ≤ 2^36) (hr : l.rets.length ≤ 2^36) (hc : l.code.length ≤ 2^36) (H : List Blk) : ACalls Try.prog 24 [.agg l.cells] H (fun e H' => e = .ret (.tup [.agg (lowerMake l).1.cells, I (lowerMake l).2]) ∧ H' = H) := by
  refine acalls_under fun hu _ => acalls_weakE (acalls_tidy (acalls_spare 3 (acalls_of_vc (hn := fun d => d == 55 || d == 71 || d == 89 || d == 111) (od := fun _ => none) Try.func24 rfl (by kernel_rfl) ?_)))
  have hw := fun H => wrong_ok l (by omega) (by omega) (by omega) H
  simp only [Linear.cells] at hw
  simp -dsimp
  refine acallsW_det (hw _) ?_
  simp -dsimp
  refine condVW_introNE (fun h0 _ _ => ?_) (fun h0 => ?_)
  · simp -dsimp
    refine tidy_same rfl ⟨_, .tupL (.cons (.aggL (.cons (.nil 13) (.cons (.nil 1) (.cons (.nil 1) (.cons (.refl _) .nil))))) (.cons (.refl _) .nil)), ?_, rfl⟩
    simp [lowerMake, h0]
  have hln := wrong_lines h0
  obtain ⟨hrp, hrr⟩ := wrong_regs h0
  clear hw
  simp -dsimp
  obtain ⟨M, hM⟩ : ∃ M, M = H ++ [Blk.pend, .pend, .pend, Blk.box 30 [I l.vars, Int.sl l.params, Int.sl l.rets, I l.frame, Line.sl l.code], .box 59 [.v (.slice none 0 0), .v (.slice none 0 0), .v (.slice none 0 0), I 0], .map []] := ⟨_, rfl⟩
  have hMl : M.length = H.length + 6 := by rw [hM]; simp
  have hM0 : M = M.set (H.length + 5) (.map (tabM [])) ++ [] := by
    rw [List.append_nil, hM]; simp [tabM]
  rw [← hM]
  refine loop_rule (hn := fun _ => false) (od := fun _ => none) (fun (i : Nat) f H' => (∃ t L, H' = M.set (H.length + 5) (.map (tabM t)) ++ L ∧ labTab (l.code.drop i) t = labTab l.code []) ∧ f 1 = .bp (H.length + 3) 0 ∧ f 2 = .bp (H.length + 4) 0 ∧ f 5 = .hm (H.length + 5) ∧ f 24 = Line.sl l.code ∧ f 25 = I l.code.length ∧ f 26 = I i ∧ i ≤ l.code.length) (fun i => l.code.length - i) (by kernel_rfl) 0 (by refine ⟨⟨[], [], hM0, rfl⟩, ?_⟩; simp) ?_
  rintro i f H' ⟨⟨t, L, rfl, ht⟩, f1, f2, f5, f24, f25, f26, hi⟩
  have hkM : H.length + 5 < M.length := by omega
  have gm : ∀ t X, mapEs (M.set (H.length + 5) (.map (tabM t)) ++ X) (.hm (H.length + 5)) = some (tabM t) := by
    intro t X; simp only [mapEs]; rw [m1_get hkM]
  have gl : ∀ t X, lenV (M.set (H.length + 5) (.map (tabM t)) ++ X) 3 (.hm (H.length + 5)) = some (t.length : Int) := by
    intro t X; simp only [lenV]; rw [m1_get hkM]; simp [tabM]
  have gs : ∀ t X Y, (M.set (H.length + 5) (.map (tabM t)) ++ X).set (H.length + 5) Y = M.set (H.length + 5) Y ++ X := fun t X Y => m1_set hkM _ _ _
  obtain ⟨N, hN⟩ : ∃ N, N = M.set (H.length + 5) (.map (tabM t)) ++ L := ⟨_, rfl⟩
  have gm1 : ∀ X, mapEs (N ++ X) (.hm (H.length + 5)) = some (tabM t) := by intro X; rw [hN, List.append_assoc, gm]
  have gl1 : ∀ X, lenV (N ++ X) 3 (.hm (H.length + 5)) = some (t.length : Int) := by intro X; rw [hN, List.append_assoc, gl]
  have gs1 : ∀ X Y, (N ++ X).set (H.length + 5) Y = M.set (H.length + 5) Y ++ (L ++ X) := by intro X Y; rw [hN, List.append_assoc, gs]
  have hset := fun k => tab_set k t.length t
  rw [← hN]
  simp -dsimp [f1, f2, f5, f24, f25, f26]
  refine condVW_introD (fun hlt => ?_) (fun hlt => ?_)
  · simp -dsimp [f1, f2, f5, f24, f25, f26, List.getElem?_eq_getElem, hlt]
    rw [drop_cons hlt, labTab] at ht
    refine condVW_introE (fun hk => ?_) (fun hk _ _ => ?_)
    · simp -dsimp [f1, f2, f5, f24, f25, f26, gm1, gl1, hset, gs1]
      rw [if_pos hk] at ht
      exact ⟨i + 1, by omega, ⟨_, ⟨_, rfl⟩, ht⟩, wrapS (by omega), by omega⟩
    · simp -dsimp [f1, f2, f5, f24, f25, f26]
      rw [if_neg hk] at ht
      exact ⟨i + 1, by omega, ⟨t, ⟨L ++ _, by rw [hN, List.append_assoc]⟩, ht⟩, wrapS (by omega), by omega⟩
  rw [drop_end hlt, labTab] at ht
  subst ht
  simp -dsimp [f1, f2, f5, f24, f25, f26]
  obtain ⟨A, hA⟩ : ∃ A, A = [Blk.box 30 [I l.vars, Int.sl l.params, Int.sl l.rets, I l.frame, Line.sl l.code], .box 59 [.v (.slice none 0 0), .v (.slice none 0 0), .v (.slice none 0 0), I 0], .map (tabM (labTab l.code []))] ++ L := ⟨_, rfl⟩
  have hNA : N = H ++ ([Blk.pend, .pend, .pend] ++ A) := by
    rw [hN, hM, hA, List.set_append_right _ _ (by omega), show H.length + 5 - H.length = 5 by omega]; simp
  have g30 : N[H.length + 3]? = some (Blk.box 30 [I l.vars, Int.sl l.params, Int.sl l.rets, I l.frame, Line.sl l.code]) := by rw [hNA, hA]; simp
  have hNl : N.length = H.length + (3 + A.length) := by rw [hNA]; simp; omega
  have hNb : ∀ b, N ++ [b] = mkM H A [] [] [] b [] := by intro b; rw [hNA]; simp [mkM]
  have G30 : ∀ c p r bx X, (mkM H A c p r bx X)[H.length + 3]? = some (Blk.box 30 [I l.vars, Int.sl l.params, Int.sl l.rets, I l.frame, Line.sl l.code]) := fun c p r bx X => mkM_a (j := 0) (by rw [hA]; rfl)
  have G59 : ∀ c p r bx X, (mkM H A c p r bx X)[H.length + 4]? = some (.box 59 [.v (.slice none 0 0), .v (.slice none 0 0), .v (.slice none 0 0), I 0]) := fun c p r bx X => mkM_a (j := 1) (by rw [hA]; rfl)
  have Gm : ∀ c p r bx X, mapEs (mkM H A c p r bx X) (.hm (H.length + 5)) = some (tabM (labTab l.code [])) := by
    intro c p r bx X
    have : (mkM H A c p r bx X)[H.length + 5]? = some (.map (tabM (labTab l.code []))) := mkM_a (j := 2) (by rw [hA]; rfl)
    simp only [mapEs]; rw [this]
  simp -dsimp [f1, f2, f5, f24, f25, f26, g30, hNb, hNl, G30, mkM_bx, mkM_sb]
  clear gm gl gs gm1 gl1 gs1 hset
  have c46 := regs_ok
  obtain ⟨rp, hrpe⟩ : ∃ rp, rp = l.params.map fun v => [I (regOf v)] := ⟨_, rfl⟩
  obtain ⟨rr, hrre⟩ : ∃ rr, rr = l.rets.map fun v => [I (regOf v)] := ⟨_, rfl⟩
  have hrpl : rp.length = l.params.length := by rw [hrpe]; simp
  have hrrl : rr.length = l.rets.length := by rw [hrre]; simp
  refine loop_rule (hn := fun d => d == 55 || d == 71 || d == 89 || d == 111) (od := fun _ => none) (fun (i : Nat) f H' => H' = mkM H A [] (rp.take i) [] (.box 59 [nilS, ownS (H.length + 1) (rp.take i), nilS, I l.frame]) [] ∧
    f 1 = .bp (H.length + 3) 0 ∧ f 2 = .bp (H.length + 4) 0 ∧ f 5 = .hm (H.length + 5) ∧ f 8 = .bp (H.length + (3 + A.length)) 0 ∧ f 43 = Int.sl l.params ∧ f 44 = I l.params.length ∧ f 45 = I i ∧ i ≤ l.params.length) (fun i => l.params.length - i) (by kernel_rfl) 0 (by simp [f1, f2, f5]) ?_
  clear f1 f2 f5 f24 f25 f26 hlt hi i f
  rintro i f H' ⟨rfl, f1, f2, f5, f8, f43, f44, f45, hi⟩
  simp -dsimp [f1, f2, f5, f8, f43, f44, f45]
  refine condVW_introD (fun hlt => ?_) (fun hlt => ?_)
  · have hv : 0 ≤ l.params[i] ∧ l.params[i] < 11 := hrp _ (List.getElem_mem hlt)
    have hnext : rp.take i ++ [[I (regOf l.params[i])]] = rp.take (i + 1) := by
      rw [List.take_succ_eq_append_getElem (by omega)]; simp [hrpe]
    simp -dsimp [f1, f2, f5, f8, f43, f44, f45, List.getElem?_eq_getElem, hlt, mkM_bx]
    refine callDW_intro (c46 _) ?_
    simp -dsimp [f1, f2, f5, f8, f43, f44, f45, List.getElem?_eq_getElem, hlt, mkM_bx, regA_get, hv]
    refine appendVW_own mkM_r1 (by simp; omega) (by simp; omega) ?_
    simp -dsimp [f1, f2, f5, f8, f43, f44, f45, hnext, mkM_bx, mkM_s1, mkM_sb]
    exact ⟨i + 1, by omega, rfl, wrapS (by omega), by omega⟩
  have e1 : rp.take i = rp := List.take_of_length_le (by omega)
  simp -dsimp [f1, f2, f5, f8, f43, f44, f45, e1, G30]
  refine loop_rule (hn := fun d => d == 55 || d == 71 || d == 89 || d == 111) (od := fun _ => none) (fun (i : Nat) f H' => H' = mkM H A [] rp (rr.take i) (.box 59 [nilS, ownS (H.length + 1) rp, ownS (H.length + 2) (rr.take i), I l.frame]) [] ∧
    f 1 = .bp (H.length + 3) 0 ∧ f 2 = .bp (H.length + 4) 0 ∧ f 5 = .hm (H.length + 5) ∧ f 8 = .bp (H.length + (3 + A.length)) 0 ∧ f 59 = Int.sl l.rets ∧ f 60 = I l.rets.length ∧ f 61 = I i ∧ i ≤ l.rets.length) (fun i => l.rets.length - i) (by kernel_rfl) 0 (by simp [f1, f2, f5, f8]) ?_
  clear f1 f2 f5 f8 f43 f44 f45 hlt hi e1 i f
  rintro i f H' ⟨rfl, f1, f2, f5, f8, f59, f60, f61, hi⟩
  simp -dsimp [f1, f2, f5, f8, f59, f60, f61]
  refine condVW_introD (fun hlt => ?_) (fun hlt => ?_)
  · have hv : 0 ≤ l.rets[i] ∧ l.rets[i] < 11 := hrr _ (List.getElem_mem hlt)
    have hnext : rr.take i ++ [[I (regOf l.rets[i])]] = rr.take (i + 1) := by
      rw [List.take_succ_eq_append_getElem (by omega)]; simp [hrre]
    simp -dsimp [f1, f2, f5, f8, f59, f60, f61, List.getElem?_eq_getElem, hlt, mkM_bx]
    refine callDW_intro (c46 _) ?_
    simp -dsimp [f1, f2, f5, f8, f59, f60, f61, List.getElem?_eq_getElem, hlt, mkM_bx, regA_get, hv]
    refine appendVW_own mkM_r2 (by simp; omega) (by simp; omega) ?_
    simp -dsimp [f1, f2, f5, f8, f59, f60, f61, hnext, mkM_bx, mkM_s2, mkM_sb]
    exact ⟨i + 1, by omega, rfl, wrapS (by omega), by omega⟩
  have e1 : rr.take i = rr := List.take_of_length_le (by omega)
  simp -dsimp [f1, f2, f5, f8, f59, f60, f61, e1, G30]
  have c48 := fun (x : Line) (hx : x ∈ l.code) (n : Int) H => line_ok x n (hln x hx) H
  obtain ⟨cd, hcd⟩ : ∃ cd : Nat → List (List AV), ∀ i, cd i = ((l.code.take i).flatMap fun x => lineL x (labNo l.code x.label)).map Amd.cells := ⟨_, fun _ => rfl⟩
  have hcdl : ∀ i, (cd i).length ≤ 4 * l.code.length := by
    intro i; rw [hcd]; have := flat_len (l.code.take i) (fun x => labNo l.code x.label); simp only [List.length_take] at this; simp only [List.length_map]; omega
  refine loop_rule (hn := fun d => d == 55 || d == 71 || d == 89 || d == 111) (od := fun _ => none) (fun (i : Nat) f H' => (∃ X, H' = mkM H A (cd i) rp rr (.box 59 [ownS H.length (cd i), ownS (H.length + 1) rp, ownS (H.length + 2) rr, I l.frame]) X) ∧
    f 1 = .bp (H.length + 3) 0 ∧ f 2 = .bp (H.length + 4) 0 ∧ f 5 = .hm (H.length + 5) ∧ f 8 = .bp (H.length + (3 + A.length)) 0 ∧ f 75 = Line.sl l.code ∧ f 76 = I l.code.length ∧ f 77 = I i ∧ i ≤ l.code.length) (fun i => l.code.length - i) (by kernel_rfl) 0 (by simp [f1, f2, f5, f8, hcd]; exact ⟨[], rfl⟩) ?_
  clear f1 f2 f5 f8 f59 f60 f61 hlt hi e1 i f
  rintro i f H' ⟨⟨X, rfl⟩, f1, f2, f5, f8, f75, f76, f77, hi⟩
  simp -dsimp [f1, f2, f5, f8, f75, f76, f77]
  refine condVW_introD (fun hlt => ?_) (fun hlt => ?_)
  · have hnext : cd i ++ (lineL l.code[i] (labNo l.code l.code[i].label)).map Amd.cells = cd (i + 1) := by
      rw [hcd, hcd, List.take_succ_eq_append_getElem hlt, List.flatMap_append, List.map_append]; simp
    have hgc : l.code[i]? = some l.code[i] := List.getElem?_eq_getElem hlt
    have c48' := c48 l.code[i] (List.getElem_mem hlt)
    have hfd := tab_find l.code[i].label (labTab l.code [])
    have hgd : ((List.lookup l.code[i].label (labTab l.code [])).map I).getD (assertV.avZ (Value.int .i64 0)) = I (labNo l.code l.code[i].label) := getDI _
    have hle := hcdl i
    have hle2 := lineL_len l.code[i] (labNo l.code l.code[i].label)
    simp only [Line.cells] at c48'
    obtain ⟨K, hK⟩ : ∃ K, K = H.length + 4 + A.length + X.length := ⟨_, rfl⟩
    have kl : ∀ c p r bx, (mkM H A c p r bx X).length = K := fun c p r bx => by rw [mkM_len, hK]
    have kg : ∀ c p r bx b, (mkM H A c p r bx (X ++ [b]))[K]? = some b := fun c p r bx b => by rw [hK, mkM_x]; simp
    have ks : ∀ c p r bx b b', (mkM H A c p r bx (X ++ [b])).set K b' = mkM H A c p r bx (X ++ [b']) := fun c p r bx b b' => by rw [hK, mkM_sx, set_end]
    simp -dsimp [f1, f2, f5, f8, f75, f76, f77, hgc, hlt, mkM_bx, mkM_app, kl, kg, ks, Gm, hfd, hgd]
    refine callDW_intro (c48' _ _) ?_
    simp -dsimp [f1, f2, f5, f8, f75, f76, f77, mkM_bx, mkM_app, kl, kg, ks, Gm, hfd, hgd]
    refine appendVW_own mkM_r0 (by simp; omega) (by simp; omega) ?_
    simp -dsimp [f1, f2, f5, f8, f75, f76, f77, hnext, mkM_bx, mkM_s0, mkM_sb]
    exact ⟨i + 1, by omega, ⟨_, rfl⟩, wrapS (by omega), by omega⟩
  have e1 : l.code.take i = l.code := List.take_of_length_le (by omega)
  have hcde := hcd i
  have hle := hcdl i
  rw [e1] at hcde
  generalize cd i = ce at hcde hle ⊢
  clear hcd hcdl
  have hend : ∀ (A X : List Blk) (bx : Blk) (cf : List Amd), cf = (makeA l).code → Tidy H (WeakE fun e H' => e = AE.ret (AV.tup [AV.agg [Amd.sl (lowerMake l).fst.code, Int.sl (lowerMake l).fst.params, Int.sl (lowerMake l).fst.rets, I (lowerMake l).fst.frame], I (lowerMake l).snd]) ∧ H' = H)
      (.ret (.tup [.agg [ownS H.length (cf.map Amd.cells), ownS (H.length + 1) rp, ownS (H.length + 2) rr, I l.frame], I 0])) (mkM H A (cf.map Amd.cells) rp rr bx X) := by
    intro A X bx cf hcf
    have hz0 := amd_frz cf
    have hz1 : rp.flatten.all AV.frzB = true := by have := int_frz (l.params.map regOf); rw [List.map_map] at this; rw [hrpe]; exact this
    have hz2 : rr.flatten.all AV.frzB = true := by have := int_frz (l.rets.map regOf); rw [List.map_map] at this; rw [hrre]; exact this
    refine tidy_giveO (f := fun x => .tup [.agg [x, ownS (H.length + 1) rp, ownS (H.length + 2) rr, I l.frame], I 0]) hu 0 13 69 (cf.map Amd.cells) rfl hz0 (fun x => by simp only [AV.frz, frzL, Nat.add_zero]; rw [frz_ownS_ne (by omega), frz_ownS_ne (by omega)]) ?_
    intro x0 L0 g0 k0
    refine tidy_giveO (f := fun x => .tup [.agg [x0, x, ownS (H.length + 2) rr, I l.frame], I 0]) hu 1 1 46 rp (k0 1 _ (by omega) rfl (under_ownB_plain hz1)) hz1 (fun x => by simp only [AV.frz, frzL]; rw [frz_ownS_ne (by omega), g0.frz]) ?_
    intro x1 L1 g1 k1
    refine tidy_giveO (f := fun x => .tup [.agg [x0, x1, x, I l.frame], I 0]) hu 2 1 46 rr (k1 2 _ (by omega) (k0 2 _ (by omega) rfl (under_ownB_plain hz2)) (under_ownB_plain hz2)) hz2 (fun x => by simp only [AV.frz, frzL]; rw [g0.frz, g1.frz]) ?_
    intro x2 L2 g2 k2
    refine tidy_same (by simp [AV.under, underL, g0.under, g1.under, g2.under]) ⟨_, .tupL (.cons (.aggL (.cons g0.weak (.cons g1.weak (.cons g2.weak (.cons (.refl _) .nil))))) (.cons (.refl _) .nil)), ?_, rfl⟩
    simp [lowerMake, h0, makeA, hcf, hrpe, hrre]
  have s4 : ∀ c bx X b, (mkM H A c rp rr bx X).set (H.length + 4) b = mkM H (A.set 1 b) c rp rr bx X := fun c bx X b => mkM_sa (j := 1) (by rw [hA]; simp)
  have g4 : ∀ c bx X b, (mkM H (A.set 1 b) c rp rr bx X)[H.length + 4]? = some b := fun c bx X b => mkM_a (j := 1) (by rw [hA]; simp)
  have bx := fun c X => mkM_bx (H := H) (A := A) (c := c) (p := rp) (r := rr) (bx := .box 59 [ownS H.length ce, ownS (H.length + 1) rp, ownS (H.length + 2) rr, I l.frame]) (X := X)
  replace hA := Hid.mk hA
  replace hM := Hid.mk hM
  replace hM0 := Hid.mk hM0
  replace hNA := Hid.mk hNA
  replace hN := Hid.mk hN
  replace hNl := Hid.mk hNl
  replace hNb := Hid.mk hNb
  replace hrpe := Hid.mk hrpe
  replace hrre := Hid.mk hrre
  replace hend := Hid.mk hend
  replace hle := Hid.mk hle
  have fin1 : Hid (endsL l.code = true → ∀ A bx X, Tidy H (WeakE fun e H' => e = AE.ret (AV.tup [AV.agg [Amd.sl (lowerMake l).fst.code, Int.sl (lowerMake l).fst.params, Int.sl (lowerMake l).fst.rets, I (lowerMake l).fst.frame], I (lowerMake l).snd]) ∧ H' = H)
      (.ret (.tup [.agg [ownS H.length ce, ownS (H.length + 1) rp, ownS (H.length + 2) rr, I l.frame], I 0])) (mkM H A ce rp rr bx X)) := ⟨fun he A bx X => by
    rw [hcde]; exact hend.out _ X _ _ (by simp [makeA, he])⟩
  have fin2 : Hid (endsL l.code = false → ∀ A bx X cf, cf = ce ++ [retA.cells] → Tidy H (WeakE fun e H' => e = AE.ret (AV.tup [AV.agg [Amd.sl (lowerMake l).fst.code, Int.sl (lowerMake l).fst.params, Int.sl (lowerMake l).fst.rets, I (lowerMake l).fst.frame], I (lowerMake l).snd]) ∧ H' = H)
      (.ret (.tup [.agg [ownS H.length cf, ownS (H.length + 1) rp, ownS (H.length + 2) rr, I l.frame], I 0])) (mkM H A cf rp rr bx X)) := ⟨fun he A bx X cf hcf => by
    have : cf = ((l.code.flatMap fun x => lineL x (labNo l.code x.label)) ++ [retA]).map Amd.cells := by rw [hcf, hcde]; simp
    rw [this]; exact hend.out _ X _ _ (by simp [makeA, he])⟩
  replace hcde := Hid.mk hcde
  have last : Hid (∀ h : l.code.length ≠ 0, endsL l.code = (l.code[l.code.length - 1].kind == 5)) := ⟨fun h => by
    unfold endsL
    rw [List.getLast?_eq_getElem?, List.getElem?_eq_getElem (by omega)]⟩
  have wl : l.code.length ≠ 0 → IntKind.i64.wrap ((l.code.length : Int) - 1) = ((l.code.length - 1 : Nat) : Int) := fun h => by rw [wrapI (by omega) (by omega)]; omega
  simp -dsimp [f1, f2, f5, f8, f75, f76, f77, G30]
  by_cases hn : l.code.length = 0
  · have he : endsL l.code = false := by unfold endsL; rw [List.eq_nil_of_length_eq_zero hn]; rfl
    simp -dsimp [f1, f2, f5, f8, hn, bx]
    refine appendVW_own mkM_r0 (by have := hle.out; simp; omega) (by have := hle.out; simp; omega) ?_
    simp -dsimp [f1, f2, f5, f8, mkM_s0, mkM_sb, mkM_bx, G59, s4, g4]
    exact fin2.out he _ _ _ _ rfl
  have h1 : l.code.length - 1 < l.code.length := by omega
  have hg1 : l.code[l.code.length - 1]? = some l.code[l.code.length - 1] := List.getElem?_eq_getElem h1
  have hb : ((l.code.length : Int) == 0) = false := by rw [beq_eq_false_iff_ne]; omega
  by_cases hk : l.code[l.code.length - 1].kind = 5
  · have he : endsL l.code = true := by rw [last.out hn]; simp [hk]
    simp -dsimp [f1, f2, f5, f8, hb, bx, G30, G59, wl hn, hg1, hk, s4, g4]
    exact fin1.out he _ _ _
  · have he : endsL l.code = false := by rw [last.out hn]; simp [hk]
    have hkb : (l.code[l.code.length - 1].kind != 5) = true := by simp [hk]
    simp -dsimp [f1, f2, f5, f8, hb, bx, G30, G59, wl hn, hg1, hkb, s4, g4]
    refine appendVW_own mkM_r0 (by have := hle.out; simp; omega) (by have := hle.out; simp; omega) ?_
    simp -dsimp [f1, f2, f5, f8, mkM_s0, mkM_sb, mkM_bx, G59, s4, g4]
    exact fin2.out he _ _ _ _ rfl
end Go.Proofs
namespace Go.Proofs
open Go.Mu
/-- The labels that stand, in their order. -/
def labs : List Line → List Int
  | [] => []
  | x :: c => if x.kind = 2 then x.label :: labs c else labs c
theorem labs_app (a b : List Line) : labs (a ++ b) = labs a ++ labs b := by
  induction a with
  | nil => rfl
  | cons x a ih => simp only [List.cons_append, labs, ih]; split <;> rfl
theorem seen_labs (vars : Int) (h0 : 0 ≤ vars) (h1 : vars ≤ 16384) : ∀ (c : List Line) (s s' : List Int), linesSeen vars c s = some s' → s.Nodup → s' = s ++ labs c ∧ s'.Nodup
  | [], s, s', h, hs => by simp only [linesSeen, Option.some.injEq] at h; subst h; simp [labs, hs]
  | x :: c, s, s', h, hs => by
    rw [linesSeen, lineSeen_eq vars h0 h1] at h
    split at h
    · rename_i hc
      simp only [Option.bind_some] at h
      by_cases hk : x.kind = 2
      · simp only [hk, if_true] at h
        simp only [hk, beq_self_eq_true, Bool.true_and, Bool.and_eq_true, Bool.not_eq_true', decide_eq_false_iff_not] at hc
        have := seen_labs vars h0 h1 c _ _ h (by
          rw [List.nodup_append]
          refine ⟨hs, by simp, fun a ha b hb => ?_⟩
          rw [List.mem_singleton] at hb; subst hb
          exact fun e => hc.2 (e ▸ ha))
        simpa [labs, hk] using this
      · simp only [hk, if_false] at h
        have := seen_labs vars h0 h1 c _ _ h hs
        simpa [labs, hk] using this
    · simp at h
theorem ok_nodup {l : Linear} (h : l.ok = true) : (labs l.code).Nodup := by
  have hh := ok_head h
  have hv : 0 ≤ l.vars ∧ l.vars ≤ 16384 := by simp only [headOk, Bool.and_eq_true, decide_eq_true_eq] at hh; omega
  simp only [Linear.ok, Bool.and_eq_true] at h
  have h2 := h.2
  cases hs : linesSeen l.vars l.code [] with
  | none => rw [hs] at h2; cases h2
  | some s =>
    have := seen_labs l.vars hv.1 hv.2 l.code [] s hs (by simp)
    rw [List.nil_append] at this
    rw [← this.1]; exact this.2
theorem putT_new (k v : Int) (t : List (Int × Int)) (h : ∀ p ∈ t, p.1 ≠ k) : putT t k v = t ++ [(k, v)] := by
  induction t with
  | nil => rfl
  | cons p t ih =>
    obtain ⟨a, b⟩ := p
    have ha : a ≠ k := h (a, b) (by simp)
    rw [putT, if_neg (fun e => ha e.symm), ih (fun p hp => h p (by simp [hp]))]; rfl
def numd : List Int → Nat → List (Int × Int)
  | [], _ => []
  | v :: l, n => (v, (n : Int)) :: numd l (n + 1)
theorem numd_keys (l : List Int) (n : Nat) : (numd l n).map (·.1) = l := by
  induction l generalizing n with
  | nil => rfl
  | cons v l ih => simp [numd, ih]
theorem numd_len (l : List Int) (n : Nat) : (numd l n).length = l.length := by rw [← List.length_map (f := (·.1)), numd_keys]
theorem labTab_eq : ∀ (c : List Line) (t : List (Int × Int)), (t.map (·.1) ++ labs c).Nodup → labTab c t = t ++ numd (labs c) t.length
  | [], t, _ => by simp [labTab, labs, numd]
  | x :: c, t, h => by
    rw [labTab]
    by_cases hk : x.kind = 2
    · simp only [labs, hk, if_true] at h ⊢
      have hn : ∀ p ∈ t, p.1 ≠ x.label := by
        rw [List.nodup_append] at h
        intro p hp
        exact h.2.2 p.1 (List.mem_map.2 ⟨p, hp, rfl⟩) x.label (by simp)
      rw [putT_new _ _ _ hn, labTab_eq c _ (by simpa using h)]
      simp [numd]
    · simp only [labs, hk, if_false] at h ⊢
      exact labTab_eq c t h
theorem lookup_app_none {k : Int} : ∀ (a b : List (Int × Int)), (∀ p ∈ a, p.1 ≠ k) → (a ++ b).lookup k = b.lookup k
  | [], b, _ => rfl
  | (x, y) :: a, b, h => by
    have hx : x ≠ k := h (x, y) (by simp)
    rw [List.cons_append, List.lookup_cons]
    have : (k == x) = false := by simp; exact fun e => hx e.symm
    rw [this]; exact lookup_app_none a b (fun p hp => h p (by simp [hp]))
theorem labNo_at {pre rest : List Line} {x : Line} (h : (labs (pre ++ x :: rest)).Nodup) (hk : x.kind = 2) : labNo (pre ++ x :: rest) x.label = ((labs pre).length : Int) := by
  unfold labNo
  rw [labTab_eq _ [] (by simpa using h)]
  simp only [List.nil_append, List.length_nil]
  have hl : labs (pre ++ x :: rest) = labs pre ++ x.label :: labs rest := by rw [labs_app, labs, if_pos hk]
  rw [hl] at h ⊢
  have happ : ∀ (a b : List Int) n, numd (a ++ b) n = numd a n ++ numd b (n + a.length) := by
    intro a; induction a with
    | nil => intro b n; rfl
    | cons v a ih => intro b n; simp only [List.cons_append, numd, ih, List.length_cons]; congr 3; omega
  rw [happ, lookup_app_none]
  · simp [numd]
  · intro p hp
    rw [List.nodup_append] at h
    have : p.1 ∈ labs pre := by rw [← numd_keys (labs pre) 0]; exact List.mem_map.2 ⟨p, hp, rfl⟩
    exact h.2.2 p.1 this x.label (by simp)
/-- Are labels numbered from here on? -/
def numOk : List Amd → Int → Bool
  | [], _ => true
  | a :: c, n => if a.op = 19 then decide (a.label = n) && numOk c (n + 1) else numOk c n
theorem numOk_none {a b : List Amd} (h : ∀ x ∈ a, x.op ≠ 19) (n : Int) : numOk (a ++ b) n = numOk b n := by
  induction a with
  | nil => rfl
  | cons x a ih => rw [List.cons_append, numOk, if_neg (h x (by simp)), ih (fun y hy => h y (by simp [hy]))]
theorem lineL_op {x : Line} (hk : x.kind ≠ 2) (v : Int) : ∀ y ∈ lineL x v, y.op ≠ 19 := by
  unfold lineL doesL
  rw [if_neg hk]
  repeat' split
  all_goals (intro y hy; simp only [List.mem_cons, List.not_mem_nil, or_false] at hy; rcases hy with rfl | rfl | rfl | rfl | rfl <;> simp [placed])
theorem num_lines (code : List Line) (h : (labs code).Nodup) (tail : List Amd) (ht : ∀ x ∈ tail, x.op ≠ 19) : ∀ (rest pre : List Line), code = pre ++ rest →
    numOk ((rest.flatMap fun x => lineL x (labNo code x.label)) ++ tail) (labs pre).length = true := by
  intro rest
  induction rest with
  | nil => intro pre hc; have := numOk_none (b := []) ht (labs pre).length; rw [List.append_nil] at this; simpa [numOk] using this
  | cons x rest ih =>
    intro pre hc
    have hn := ih (pre ++ [x]) (by rw [hc]; simp)
    rw [List.flatMap_cons, List.append_assoc]
    by_cases hk : x.kind = 2
    · have hl : lineL x (labNo code x.label) = [⟨19, 0, 0, 0, 0, 0, 0, 0, 0, false, false, 0, labNo code x.label⟩] := by simp [lineL, hk]
      have ha : labNo code x.label = ((labs pre).length : Int) := by rw [hc] at h ⊢; exact labNo_at h hk
      rw [hl, ha]
      simp only [List.cons_append, List.nil_append, numOk, if_true, decide_true, Bool.true_and]
      rw [labs_app] at hn
      simpa [labs, hk] using hn
    · rw [numOk_none (lineL_op hk _)]
      rw [labs_app] at hn
      simpa [labs, hk] using hn
theorem make_num {l : Linear} (h : l.ok = true) : numOk (makeA l).code 0 = true := by
  have := num_lines l.code (ok_nodup h) (if endsL l.code = true then [] else [retA]) (by intro x hx; split at hx <;> simp at hx; subst hx; simp) l.code [] rfl
  exact this
theorem make_len (l : Linear) : (makeA l).code.length ≤ 4 * l.code.length + 1 := by
  have := flat_len l.code (fun x => labNo l.code x.label)
  unfold makeA
  simp only [List.length_append]
  split <;> simp only [List.length_cons, List.length_nil] <;> omega
theorem regs_apart : ∀ i : Nat, i < 11 → regOf i ≠ 0 ∧ regOf i ≠ 1 ∧ regOf i ≠ 2 ∧ regOf i ≠ 4 ∧ ∀ k : Nat, k < i → regOf k ≠ regOf i := by decide
end Go.Proofs
namespace Go.Proofs
open Go.Mu
theorem lowerSizes_ok (l : Linear) (hp : l.params.length ≤ 2^36) (hr : l.rets.length ≤ 2^36) (hc : l.code.length ≤ 2^36) (hw : ∀ x ∈ l.code, wordIn x) (H : List Blk) : ACalls Try.prog 5 [.agg l.cells] H (fun e H' => e = .ret (Bo true) ∧ H' = H) := by
  refine acalls_tidy (acalls_of_vc (hn := fun d => false) (od := fun _ => none) Try.func5 rfl (by kernel_rfl) ?_)
  have leaf : Hid (∀ (L : List Blk), Tidy H (fun e H' => e = AE.ret (Bo true) ∧ H' = H) (AE.ret (Bo true)) (H ++ L)) := ⟨fun L => tidy_same rfl ⟨rfl, rfl⟩⟩
  have kn := known20_ok
  have cs := fun H => short_lin_ok l H
  have ca := fun H => ask_ok l (by omega) (by omega) (by omega) hw H
  have cm := fun H => lowerMake_ok l hp hr hc H
  simp only [Linear.cells, Asm.cells] at cs ca cm
  simp -dsimp
  repeat' ((with_reducible first | refine And.intro ?_ ?_ | refine guardVW_introTD (fun _ => ?_) (fun _ => ?_) | refine guardVW_introFD (fun _ => ?_) (fun _ => ?_) | refine condVW_introD (fun _ => ?_) (fun _ => ?_) | refine guardVW_introTE (fun _ => ?_) (fun _ _ _ => ?_) | refine guardVW_introFE (fun _ => ?_) (fun _ _ _ => ?_) | refine condVW_introE (fun _ => ?_) (fun _ _ _ => ?_) | refine guardVW_introTNE (fun _ _ _ => ?_) (fun _ => ?_) | refine guardVW_introFNE (fun _ _ _ => ?_) (fun _ => ?_) | refine condVW_introNE (fun _ _ _ => ?_) (fun _ => ?_) | refine guardVW_introTB (fun _ => ?_) (fun _ => ?_) | refine guardVW_introFB (fun _ => ?_) (fun _ => ?_) | refine condVW_introB (fun _ => ?_) (fun _ => ?_) | refine guardVW_introT (fun _ => ?_) (fun _ => ?_) | refine guardVW_introF (fun _ => ?_) (fun _ => ?_) | refine condVW_intro (fun _ => ?_) (fun _ => ?_) | refine acallsW_det (kn _) ?_ | refine callDW_intro (kn _) ?_ | refine acallsW_det (cs _) ?_ | refine callDW_intro (cs _) ?_ | refine acallsW_det (ca _) ?_ | refine callDW_intro (ca _) ?_) <;> simp -dsimp [*])
  all_goals first | exact leaf.out _ | skip
  rename_i hs h0
  have hm : lowerMake l = (makeA l, 0) := by simp [lowerMake, h0]
  rw [hm] at cm
  have hlen := make_len l
  have hnum := make_num (wrong_zero h0).1
  have hshort : l.code.length ≤ 400 := by simp only [Linear.short, Bool.and_eq_true, decide_eq_true_eq] at hs; omega
  refine acallsW_det (cm _) ?_
  generalize makeA l = A at *
  simp -dsimp
  have wm : IntKind.i64.wrap (4 * (l.code.length : Int)) = 4 * l.code.length := wrapI (by omega) (by omega)
  have wa : IntKind.i64.wrap (4 * (l.code.length : Int) + 1) = 4 * l.code.length + 1 := wrapI (by omega) (by omega)
  simp -dsimp [wm, wa]
  refine condVW_introD (fun h => absurd h (by omega)) (fun _ => ?_)
  simp -dsimp
  refine loop_rule (hn := fun _ => false) (od := fun _ => none) (fun (i : Nat) f H' => (∃ n : Int, f 5 = I n ∧ numOk (A.code.drop i) n = true ∧ 0 ≤ n ∧ n ≤ i) ∧ H' = H ++ [Blk.box 30 [I l.vars, Int.sl l.params, Int.sl l.rets, I l.frame, Line.sl l.code], .box 59 [Amd.sl A.code, Int.sl A.params, Int.sl A.rets, I A.frame]] ∧
    f 1 = .bp H.length 0 ∧ f 3 = .bp (H.length + 1) 0 ∧ f 6 = I i ∧ i ≤ A.code.length) (fun i => A.code.length - i) (by kernel_rfl) 0 (by simp [hnum]) ?_
  rintro i f H' ⟨⟨n, f5, hok, hn0, hni⟩, rfl, f1, f3, f6, hi⟩
  simp -dsimp [f1, f3, f5, f6]
  refine condVW_introD (fun hlt => ?_) (fun hlt => ?_)
  · have hg : A.code[i]? = some A.code[i] := List.getElem?_eq_getElem hlt
    rw [drop_cons hlt, numOk] at hok
    simp -dsimp [f1, f3, f5, f6, hg, hlt]
    refine condVW_introE (fun hk => ?_) (fun hk _ _ => ?_)
    · rw [if_pos hk, Bool.and_eq_true, decide_eq_true_eq] at hok
      simp -dsimp [f1, f3, f5, f6, hg, hlt, hok.1]
      rw [show IntKind.i64.wrap (n + 1) = n + 1 from wrapI (by omega) (by omega)]
      exact ⟨i + 1, by omega, ⟨hok.2, by omega, by omega⟩, wrapS (by omega), by omega⟩
    · rw [if_neg hk] at hok
      simp -dsimp [f1, f3, f5, f6, hg, hlt]
      exact ⟨i + 1, by omega, ⟨hok, by omega, by omega⟩, wrapS (by omega), by omega⟩
  simp -dsimp [f1, f3, f5, f6]
  clear hlt hi hok hn0 hni
  have c16 := reg_ok
  refine loop_rule (hn := fun _ => false) (od := fun _ => none) (fun (i : Nat) f H' => H' = H ++ [Blk.box 30 [I l.vars, Int.sl l.params, Int.sl l.rets, I l.frame, Line.sl l.code], .box 59 [Amd.sl A.code, Int.sl A.params, Int.sl A.rets, I A.frame]] ∧
    f 7 = I i ∧ i ≤ 11) (fun i => 11 - i) (by kernel_rfl) 0 (by simp) ?_
  rintro j g H' ⟨rfl, g7, hj⟩
  simp -dsimp [g7]
  refine condVW_introD (fun hlt => ?_) (fun hlt => ?_)
  · have hi11 : 0 ≤ (j : Int) ∧ (j : Int) < 11 := by omega
    have ap := regs_apart j (by omega)
    have b0 : (regOf j == 0) = false := by simp [ap.1]
    have b1 : (regOf j == 1) = false := by simp [ap.2.1]
    have b2 : (regOf j == 2) = false := by simp [ap.2.2.1]
    have b4 : (regOf j == 4) = false := by simp [ap.2.2.2.1]
    simp -dsimp [g7]
    refine acallsW_det (c16 _ _) ?_
    simp -dsimp [g7, hi11, b0, b1, b2, b4]
    refine loop_rule (hn := fun _ => false) (od := fun _ => none) (fun (k : Nat) f H' => H' = H ++ [Blk.box 30 [I l.vars, Int.sl l.params, Int.sl l.rets, I l.frame, Line.sl l.code], .box 59 [Amd.sl A.code, Int.sl A.params, Int.sl A.rets, I A.frame]] ∧
      f 7 = I j ∧ f 8 = I (regOf j) ∧ f 10 = I k ∧ k ≤ j) (fun k => j - k) (by kernel_rfl) 0 (by simp [g7]) ?_
    rintro k h H' ⟨rfl, h7, h8, h10, hk⟩
    simp -dsimp [h7, h8, h10]
    refine condVW_introD (fun hlt => ?_) (fun hlt => ?_)
    · simp -dsimp [h7, h8, h10]
      refine acallsW_det (c16 _ _) ?_
      have hk11 : 0 ≤ (k : Int) ∧ (k : Int) < 11 := by omega
      have hne : (regOf k == regOf j) = false := by simp [ap.2.2.2.2 k (by omega)]
      simp -dsimp [h7, h8, h10, hk11, hne]
      exact ⟨k + 1, by omega, wrapS (by omega), by omega⟩
    · simp -dsimp [h7, h8, h10]
      exact ⟨j + 1, by omega, wrapS (by omega), by omega⟩
  · simp -dsimp [g7]
    refine acallsW_det (kn _) ?_
    simp -dsimp
    exact leaf.out _
end Go.Proofs
