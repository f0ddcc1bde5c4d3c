/- What is live in code that goes straight on, reckoned (no program in sight). -/
import Derived.Test.YtklgcajfkkoacaaGreatCL2toCW3
import Derived.Test.YtklgcajfkkoacaaGreatFwUtoCV3
import Derived.Test.YtklgcajfkkoacaaGreatFS6toCCA
import Derived.Test.YtklgcajfkkoacaaGreatFS4toCN1
set_option linter.unusedVariables false
set_option linter.unusedSimpArgs false
set_option maxHeartbeats 4000000
set_option maxRecDepth 100000
namespace Go.Proofs
open Go.Mu
def liveC (l : Linear) : Nat → Nat → List Int
  | 0, _ => []
  | f + 1, i => match l.code[i]? with
    | none => if i = l.code.length then riseL l.rets else []
    | some x => riseL (x.raw ++ (nxt l i).flatMap fun k => (liveC l f k.toNat).filter fun v => !decide (v ∈ x.defs))
def straight (l : Linear) : Bool := (List.range l.code.length).all fun i => (nxt l i).all fun k => decide ((i : Int) < k)
theorem liveC_rise (l : Linear) (f i : Nat) : Rising (liveC l f i) := by
  cases f with
  | zero => exact List.Pairwise.nil
  | succ f =>
    rw [liveC]
    split
    · split
      · exact riseL_rise _
      · exact List.Pairwise.nil
    · exact riseL_rise _
theorem liveAt_iff {l : Linear} {i : Nat} {x : Line} (hx : l.code[i]? = some x) {v : Int} : LiveAt l i v ↔ v ∈ x.raw ∨ (v ∉ x.defs ∧ ∃ k : Nat, (k : Int) ∈ nxt l i ∧ LiveAt l k v) := by
  constructor
  · intro h
    cases h with
    | told h => rw [List.getElem?_eq_none (Nat.le_refl _)] at hx; cases hx
    | read hx' h => rw [hx, Option.some.injEq] at hx'; subst hx'; exact .inl h
    | way hx' hd hk h => rw [hx, Option.some.injEq] at hx'; subst hx'; exact .inr ⟨hd, _, hk, h⟩
  · rintro (h | ⟨h, k, hk, hl⟩)
    · exact .read hx h
    · exact .way hx h hk hl
theorem liveC_iff {l : Linear} (ho : LinOk l) (hst : straight l = true) : ∀ (f i : Nat), l.code.length < f + i → ∀ v, v ∈ liveC l f i ↔ LiveAt l i v
  | 0, i, hf, v => by
    rw [liveC]
    constructor
    · intro h; simp at h
    · intro h; have := (live_in ho h).2; omega
  | f + 1, i, hf, v => by
    rw [liveC]
    split
    · rename_i hx
      have hi := List.getElem?_eq_none_iff.1 hx
      by_cases e : i = l.code.length
      · rw [if_pos e, riseL_mem, e]
        constructor
        · exact .told
        · intro h
          cases h with
          | told h => exact h
          | read hx _ => have := (List.getElem?_eq_some_iff.1 hx).1; omega
          | way hx _ _ _ => have := (List.getElem?_eq_some_iff.1 hx).1; omega
      · rw [if_neg e]
        constructor
        · intro h; simp at h
        · intro h; have := (live_in ho h).2; omega
    · rename_i x hx
      rw [riseL_mem, List.mem_append, List.mem_flatMap, liveAt_iff hx]
      have hil := (List.getElem?_eq_some_iff.1 hx).1
      have hgt : ∀ k ∈ nxt l i, (i : Int) < k := fun k hk => by
        have := List.all_eq_true.1 (List.all_eq_true.1 hst i (List.mem_range.2 hil)) k hk
        exact of_decide_eq_true this
      constructor
      · rintro (h | ⟨k, hk, h⟩)
        · exact .inl h
        · rw [List.mem_filter] at h
          have hk2 := hgt k hk
          refine .inr ⟨by simpa using h.2, k.toNat, by rw [Int.toNat_of_nonneg (by omega)]; exact hk, (liveC_iff ho hst f k.toNat (by omega) v).1 h.1⟩
      · rintro (h | ⟨hd, k, hk, h⟩)
        · exact .inl h
        · have hk2 := hgt _ hk
          refine .inr ⟨(k : Int), hk, ?_⟩
          rw [List.mem_filter, Int.toNat_natCast]
          exact ⟨(liveC_iff ho hst f k (by omega) v).2 h, by simpa using hd⟩
theorem liveC_eq {l : Linear} (hok : l.ok = true) (hst : straight l = true) (i : Nat) : liveL l i = liveC l (l.code.length + 1) i := by
  have ho := ((ok_iff l).1 hok).1
  refine sorted_ext (liveL_rise _ _) (liveC_rise _ _ _) fun v => ?_
  rw [live_mem ho]
  by_cases hi : i ≤ l.code.length
  · exact (liveC_iff ho hst _ i (by omega) v).symm
  · constructor
    · intro h; have := (live_in ho h).2; omega
    · intro h
      rw [liveC, List.getElem?_eq_none (by omega)] at h
      simp only at h
      rw [if_neg (by omega)] at h
      simp at h
end Go.Proofs
namespace Go.Proofs
open Go.Mu
def mvL (d a : Int) : Line := ⟨1, ⟨2, 0, d, a, 0, 0, 0, false⟩, 0, 0⟩
def wdL (d n : Int) : Line := ⟨1, ⟨1, 0, d, 0, 0, 0, n, false⟩, 0, 0⟩
def enL : Line := ⟨5, zeroIns, 0, 0⟩
def lA : Linear := ⟨2, [0], [1, 0], 0, [mvL 1 0, wdL 0 5, enL]⟩
def lB : Linear := ⟨2, [0], [1], 0, [mvL 1 0, enL]⟩
theorem sm_of {l : Linear} (h : l.params.length + l.rets.length + l.code.length ≤ 2^36) : l.Sm := ⟨by omega, by omega, by omega⟩
end Go.Proofs
namespace Go.Proofs
open Go.Mu
def behV (lv : Nat → List Int) (l : Linear) (i : Nat) : List Int := riseL ((nxt l i).flatMap fun k => lv k.toNat)
def meetV (lv : Nat → List Int) (l : Linear) : List Pr := riseP (((List.range l.code.length).flatMap fun i => match l.code[i]? with
  | none => []
  | some x => x.defs.flatMap fun d => (behV lv l i).flatMap fun b => if mvB x b = true then [] else prs d b) ++ l.params.flatMap fun a => (l.params ++ lv 0).flatMap fun b => prs a b)
def freeV (ps : List Pr) (r : List Int) (v : Int) (n : Nat) : Bool := ps.all fun p => !decide (p.2 = v) || !decide (rg r p.1 = n)
def propV (ps : List Pr) : List Int → List Int → Option (List Int)
  | [], r => some r
  | v :: vs, r => match (List.range 11).find? (freeV ps r v) with
    | none => none
    | some n => propV ps vs (r.set v.toNat (n : Int))
theorem meetV_eq (l : Linear) : meetL l = meetV (liveL l) l := rfl
theorem propV_eq (l : Linear) : ∀ vs r, propGo l vs r = propV (meetL l) vs r
  | [], r => rfl
  | v :: vs, r => by
    rw [propGo, propV]
    have e : freeR l r v = freeV (meetL l) r v := rfl
    rw [e]
    split
    · rename_i q; rw [q]
    · rename_i n q; rw [q]; exact propV_eq l vs _
theorem propC (l : Linear) (f : Nat) (h : ∀ i, liveL l i = liveC l f i) : propL l = propV (meetV (liveC l f) l) (cntL l) (List.replicate l.vars.toNat (-1)) := by
  have e : liveL l = liveC l f := funext h
  unfold propL
  rw [propV_eq, meetV_eq, e]
def lC : Linear := ⟨3, [2], [], 0, []⟩
theorem pA : propL lA = some [0, 1] := by rw [propC lA 4 (liveC_eq (by decide +kernel) (by decide +kernel))]; decide +kernel
theorem pB : propL lB = some [0, 0] := by rw [propC lB 3 (liveC_eq (by decide +kernel) (by decide +kernel))]; decide +kernel
theorem pC : propL lC = some [-1, -1, 0] := by rw [propC lC 1 (liveC_eq (by decide +kernel) (by decide +kernel))]; decide +kernel
theorem propE_of {l : Linear} {r : List Int} (h : propL l = some r) (hok : l.ok = true) : propE l = .ret (.tup [Int.sl r, I 0]) := by unfold propE; rw [if_pos hok, h]
theorem mv17_ok (d a : Int) (H : List Blk) : ACalls Tryz.prog 48 [I d, I a] H (fun e H' => e = .ret (.agg (mvL d a).cells) ∧ H' = H) := by
  refine acalls_tidy (acalls_of_vc (hn := fun _ => false) (od := fun _ => none) Tryz.func48 rfl (by kernel_rfl) ?_)
  simp -dsimp [mvL]
  try exact tidy_same rfl ⟨rfl, rfl⟩
theorem wd17_ok (d n : Int) (H : List Blk) : ACalls Tryz.prog 49 [I d, U n] H (fun e H' => e = .ret (.agg (wdL d n).cells) ∧ H' = H) := by
  refine acalls_tidy (acalls_of_vc (hn := fun _ => false) (od := fun _ => none) Tryz.func49 rfl (by kernel_rfl) ?_)
  simp -dsimp [wdL]
  try exact tidy_same rfl ⟨rfl, rfl⟩
theorem en17_ok (H : List Blk) : ACalls Tryz.prog 50 [] H (fun e H' => e = .ret (.agg enL.cells) ∧ H' = H) := by
  refine acalls_tidy (acalls_of_vc (hn := fun _ => false) (od := fun _ => none) Tryz.func50 rfl (by kernel_rfl) ?_)
  simp -dsimp [enL, zeroIns]
  try exact tidy_same rfl ⟨rfl, rfl⟩
theorem num17_ok (n : Int) (H : List Blk) : ACalls Tryz.prog 23 [I n] H (fun e H' => e = .ret (I n) ∧ H' = H) := by
  refine acalls_of_vc (hn := fun _ => false) (od := fun _ => none) Tryz.func23 rfl (by kernel_rfl) ?_
  simp -dsimp
theorem proposes_ok (l : Linear) (hs : l.Sm) (want : List Int) (hw : want.length ≤ 2^40) (h : propE l = .ret (.tup [Int.sl want, I 0])) (H : List Blk) : ACalls Tryz.prog 51 [.agg l.cells, Int.sl want] H (fun x H' => x = .ret (Bo true) ∧ H' = H) := by
  refine acalls_tidy (acalls_of_vc (hn := fun _ => false) (od := fun _ => none) Tryz.func51 rfl (by kernel_rfl) ?_)
  have cc := fun H => propose_ok l hs H
  rw [h] at cc
  simp only [Linear.cells] at cc
  have cs := fun H => sameInts_ok want want H hw
  simp only [decide_true] at cs
  simp -dsimp
  refine acallsW_det (cc _) ?_
  simp -dsimp
  refine acallsW_det (num17_ok _ _) ?_
  simp -dsimp
  refine acallsW_det (cs _) ?_
  simp -dsimp
  exact tidy_same rfl ⟨rfl, rfl⟩
theorem known17_ok (H : List Blk) : ACalls Tryz.prog 19 [] H (fun x H' => x = .ret (Bo true) ∧ H' = H) := by
  refine acalls_tidy (acalls_of_vc (hn := fun _ => false) (od := fun _ => none) Tryz.func19 rfl (by kernel_rfl) ?_)
  have m1 := fun H => mv17_ok 1 0 H
  have w1 := fun H => wd17_ok 0 5 H
  have e1 := fun H => en17_ok H
  have s1 := fun H => proposes_ok lA (sm_of (by decide)) [0, 1] (by decide) (propE_of pA (by decide +kernel)) H
  have s2 := fun H => proposes_ok lB (sm_of (by decide)) [0, 0] (by decide) (propE_of pB (by decide +kernel)) H
  have s3 := fun H => acalls_weak (args := [.agg [I 3, Int.sl [2], nilS, I 0, nilS], Int.sl [-1, -1, 0]]) (.cons (.aggL (.cons (.refl _) (.cons (.refl _) (.cons (.nil 1) (.cons (.refl _) (.cons (.nil 11) .nil)))))) (.refl _)) (proposes_ok lC (sm_of (by decide)) [-1, -1, 0] (by decide) (propE_of pC (by decide +kernel)) H)
  simp only [lA, lB, Linear.cells, Int.sl, Line.sl, List.map_cons, List.map_nil] at s1 s2 s3
  obtain ⟨ma, hma⟩ : ∃ ma, ma = mvL 1 0 := ⟨_, rfl⟩
  obtain ⟨wa, hwa⟩ : ∃ wa, wa = wdL 0 5 := ⟨_, rfl⟩
  obtain ⟨ea, hea⟩ : ∃ ea, ea = enL := ⟨_, rfl⟩
  rw [← hma, ← hwa, ← hea] at s1
  rw [← hma, ← hea] at s2
  rw [← hma] at m1
  rw [← hwa] at w1
  rw [← hea] at e1
  clear hma hwa hea
  simp only [Line.cells] at m1 w1 e1 s1 s2 s3
  simp -dsimp
  repeat' ((with_reducible first | refine acallsW_det (m1 _) ?_ | refine acallsW_det (w1 _) ?_ | refine acallsW_det (e1 _) ?_ | refine acallsW_det (s1 _) ?_ | refine acallsW_det (s2 _) ?_ | refine acallsW_det (s3 _) ?_) <;> simp -dsimp)
  all_goals exact tidy_same rfl ⟨rfl, rfl⟩
def much17 (l : Linear) : Bool := decide (60 < l.vars) || decide (120 < l.code.length) || decide (60 < l.params.length) || decide (60 < l.rets.length)
theorem much17_ok (l : Linear) (hs : l.Sm) (H : List Blk) : ACalls Tryz.prog 18 [.agg l.cells] H (fun e H' => e = .ret (Bo (much17 l)) ∧ H' = H) := by
  refine acalls_tidy (acalls_of_vc (hn := fun _ => false) (od := fun _ => none) Tryz.func18 rfl (by kernel_rfl) ?_)
  simp -dsimp
  repeat' ((with_reducible first | refine And.intro ?_ ?_ | refine guardVW_introTD (fun _ => ?_) (fun _ => ?_) | refine guardVW_introFD (fun _ => ?_) (fun _ => ?_) | refine condVW_introD (fun _ => ?_) (fun _ => ?_)) <;> simp -dsimp [*])
  all_goals refine tidy_same rfl ⟨congrArg (fun b => AE.ret (Bo b)) ?_, rfl⟩
  all_goals (rw [Bool.eq_iff_iff]; simp [much17]; omega)
end Go.Proofs
namespace Go.Proofs
open Go.Mu
abbrev prC (p : Pr) : List AV := [I p.1, I p.2]
abbrev prR (l : List Pr) : Blk := .row 58 2 (l.map prC)
abbrev AtP (M : List Blk) (h : Option Nat) (l : List Pr) : Prop := RowAt' 58 2 M h (l.map prC)
abbrev OwnP (B M : List Blk) (h : Option Nat) (l : List Pr) : Prop := Own 58 2 B M h (l.map prC)
def RPutP (M : List Blk) (h : Option Nat) (E : List Pr) (e : AE) (M' : List Blk) : Prop := ∃ h', e = .ret (hrow h' E.length) ∧ AtP M' h' E ∧ Stp M M' h h'
def paHn (d : Nat) : Bool := d == 56 || d == 59 || d == 63 || d == 67
def paOd (i : Nat) : Option OPlan := if i = 9 then some [(0, []), (1, []), (2, []), (4, []), (5, []), (7, []), (8, []), (9, []), (3, [4, 5, 9]), (6, [9]), (10, []), (11, [])] else none
def addR (a b : Int) (l : List Pr) : List Pr := if a = b then l else putP (a, b) l
theorem pairR_ok (a b : Int) (H : List Blk) : ACalls Tryz.prog 65 [I a, I b] H (fun e H' => e = .ret (.agg [I (min a b), I (max a b)]) ∧ H' = H) := by
  refine acalls_tidy (acalls_of_vc (hn := fun _ => false) (od := fun _ => none) Tryz.func65 rfl (by kernel_rfl) ?_)
  have h1 : (if b < a then b else a) = min a b := by omega
  have h2 : (if a < b then b else a) = max a b := by omega
  simp -dsimp [h1, h2]
  exact tidy_same rfl ⟨rfl, rfl⟩
theorem radd_ok (l : List Pr) (a b : Int) (h : Option Nat) (H : List Blk) (hr : AtP H h l) (hl : l.length ≤ 2^38) : ACalls Tryz.prog 64 [hrow h l.length, .agg [I a, I b]] H (RPutP H h (addR a b l)) := by
  refine acalls_of_vc (hn := paHn) (od := paOd) Tryz.func64 rfl (by kernel_rfl) ?_
  by_cases hab : a = b
  · subst hab
    have e : addR a a l = l := if_pos rfl
    rw [e]
    simp -dsimp
    exact ⟨h, rfl, ⟨fun k hk => get_app_old (hr.row k hk) _, hr.nil⟩, .app _ _ _⟩
  have dab : (a == b) = false := by simpa using hab
  have eR : addR a b l = putP (a, b) l := if_neg hab
  rw [eR]
  obtain ⟨E, hE⟩ : ∃ E, E = putP (a, b) l := ⟨_, rfl⟩
  rw [← hE]
  obtain ⟨B, hB⟩ : ∃ B, B = H ++ [.box 58 [I a, I b]] := ⟨_, rfl⟩
  have hb3 : B[H.length]? = some (.box 58 [I a, I b]) := by rw [hB]; simp
  have hBl : B.length = H.length + 1 := by rw [hB]; simp
  cases h with
  | none =>
    have := hr.nil rfl
    have : l = [] := List.map_eq_nil_iff.1 this
    subst this
    simp -dsimp [hrow, dab]
    rw [← hB]
    replace hB := Hid.mk hB
    refine loop_rule (hn := paHn) (od := paOd) (fun (i : Nat) f H' => B = H' ∧ f 0 = nilS ∧ f 3 = .bp H.length 0 ∧ f 5 = I 0) (fun i => 0) (by kernel_rfl) 0 (by simp) ?_
    rintro i f _ ⟨rfl, f0, f3, f5⟩
    simp -dsimp [f0, f3, f5, paHn, hb3]
    refine appendVW_nil (by simp) (by simp) (fun hy => by cases hy) (fun _ => ?_)
    simp -dsimp
    refine ⟨some B.length, by rw [hE]; rfl, ⟨fun k hk => by cases hk; rw [hE]; simp [putP, prC], fun h => by cases h⟩, by rw [List.length_append]; omega, fun i hi _ => ?_, .inr ⟨_, rfl, by omega⟩⟩
    rw [List.getElem?_append_left (by omega), hB.out, List.getElem?_append_left hi]
  | some k =>
    have q0 : H[k]? = some (prR l) := hr.row k rfl
    have hkl := lt_of_get q0
    have q : B[k]? = some (prR l) := by rw [hB]; exact get_app_old q0 _
    have n56 : paHn 56 = true := rfl
    have n59 : paHn 59 = true := rfl
    have n63 : paHn 63 = true := rfl
    have n67 : paHn 67 = true := rfl
    simp -dsimp [hrow, dab]
    rw [← hB]
    replace hB := Hid.mk hB
    refine loop_rule (hn := paHn) (od := paOd) (fun (i : Nat) f H' => B = H' ∧ f 0 = .hs k 0 l.length l.length ∧ f 3 = .bp H.length 0 ∧ f 5 = I i ∧ i ≤ l.length ∧ l.take i ++ putP (a, b) (l.drop i) = E) (fun i => l.length - i) (by kernel_rfl) 0 (by simp [hE]) ?_
    rintro i f _ ⟨rfl, f0, f3, f5, hi, hinv⟩
    have s1 : ∀ M : List Blk, M[k]? = some (prR l) → srcEs M 2 (.hs k 0 i l.length) = some ((l.take i).map prC) := fun M h => by
      simp only [srcEs, h, List.length_map, and_self, if_true, List.drop_zero, List.map_take]
    have s2 : ∀ M : List Blk, M[k]? = some (prR l) → srcEs M 2 (.hs k i (l.length - i) l.length) = some ((l.drop i).map prC) := fun M h => by
      simp only [srcEs, h, List.length_map, and_self, if_true, List.map_drop]
      rw [List.take_of_length_le (by simp)]
    simp -dsimp [f0, f3, f5, q]
    refine condVW_introD (fun hlt => ?_) (fun hlt => ?_)
    · have hlt' : i < l.length := by omega
      have hx := List.getElem?_eq_getElem hlt'
      have htk : l.take (i + 1) = l.take i ++ [l[i]] := List.take_succ_eq_append_getElem hlt'
      rw [drop_cons hlt'] at hinv
      have hdr : l.drop i = l[i] :: l.drop (i + 1) := drop_cons hlt'
      obtain ⟨x, hxe⟩ : ∃ x, x = l[i] := ⟨_, rfl⟩
      rw [← hxe] at hinv hx htk hdr
      clear hxe
      rw [putP] at hinv
      have gx : (l.map prC)[i]? = some (prC x) := by rw [List.getElem?_map, hx]; rfl
      obtain ⟨xa, xb⟩ := x
      simp only [Prod.mk.injEq] at hinv
      simp -dsimp [f0, f3, f5, q, gx, hb3, paOd]
      refine ⟨hlt', ?_⟩
      simp -dsimp [f0, f3, f5, q, gx, hb3, paOd]
      by_cases he : xa = a ∧ xb = b
      · have dq : (xa == a && xb == b) = true := by simp [he]
        have heR : xa = a ∧ xb = b := he
        rw [if_pos heR] at hinv
        have : E = l := by rw [← hinv, ← hdr, List.take_append_drop]
        simp -dsimp [f0, dq]
        refine ⟨some k, by rw [this]; rfl, ⟨fun j hj => by cases hj; rw [this]; exact q, fun h => by cases h⟩, ?_⟩
        rw [hB.out]; exact .app _ _ _
      · have dq : (xa == a && xb == b) = false := by
          rw [Bool.and_eq_false_iff]
          by_cases e : xa = a
          · exact .inr (by simpa using fun e2 => he ⟨e, e2⟩)
          · exact .inl (by simpa using e)
        rw [if_neg he] at hinv
        simp -dsimp [f0, f3, f5, q, gx, hb3, paOd, dq]
        refine ⟨hlt', ?_⟩
        by_cases c1 : a < xa
        · have d1 : decide (a < xa) = true := decide_eq_true c1
          have hp : pLt (a, b) (xa, xb) := .inl c1
          rw [if_pos hp] at hinv
          simp -dsimp [f0, f3, f5, hb3, gx, q, paHn, paOd, d1]
          refine ⟨hi, ?_⟩
          simp -dsimp [paHn, paOd, f0, f3, f5, hb3, q]
          refine ⟨⟨hi, .inr hlt'⟩, ?_⟩
          have s1' := s1 B q
          simp -dsimp [paHn, paOd, f0, f3, f5, hb3, q, s1']
          refine app_at (n := 0) (h := none) (es := []) (t := 58) (sz := 2) ⟨fun _ h => (by cases h), fun _ => rfl⟩ rfl rfl rfl (by simp; omega) (by simp; omega) ?_
          intro h1 H1 hr1 st1
          rw [← List.map_take] at hr1
          have q1 := st1.old q (by simp)
          have b1 := st1.old hb3 (by simp)
          simp -dsimp [paHn, paOd, f0, f3, f5, b1, q1, hi, hlt']
          have el : ((l.take i).map prC).length = i := by simp; omega
          refine app_at (h := h1) (es := [] ++ (l.take i).map prC) (t := 58) (sz := 2) hr1 (by simp; omega) rfl rfl (by simp; omega) (by simp; omega) ?_
          intro h2 H2 hr2 st2
          have q2 : H2[k]? = some (prR l) := st2.old q1 (fun e => by
            rcases st1.new with e1 | ⟨j, e1, hj⟩
            · rw [e1] at e; cases e
            · rw [e1] at e; cases e; omega)
          simp -dsimp [paHn, paOd, f0, f3, f5, q2, hi, hlt']
          have s2' := s2 H2 q2
          simp -dsimp [paHn, paOd, f0, f3, f5, q2, hi, hlt', s2']
          refine app_at (h := h2) (es := ([] ++ (l.take i).map prC) ++ [[I a, I b]]) (t := 58) (sz := 2) hr2 (by simp; omega) rfl rfl (by simp; omega) (by simp; omega) ?_
          intro h3 H3 hr3 st3
          have hEe : ([] ++ (l.take i).map prC) ++ [[I a, I b]] ++ ((l.map prC).drop i) = E.map prC := by
            rw [← hinv, ← List.map_drop, hdr]; simp [prC]
          rw [hEe] at hr3
          rw [hEe]
          simp -dsimp
          refine ⟨h3, rfl, hr3, ?_⟩
          have st := (st1.trans st2).trans st3
          have stB : Stp H B (some k) (some k) := by rw [hB.out]; exact .app _ _ _
          refine ⟨Nat.le_trans stB.len st.len, fun j hj hne => by rw [st.get j (by rw [hBl]; omega) (by simp), hB.out, List.getElem?_append_left hj], ?_⟩
          rcases st.new with e | ⟨j, e, hj⟩
          · rw [e] at hr3
            have := hr3.nil rfl
            rw [← hinv] at this
            simp at this
          · exact .inr ⟨j, e, by omega⟩
        · have d1 : decide (a < xa) = false := decide_eq_false c1
          by_cases c2 : xa = a
          · have c2' := c2.symm
            subst c2'
            by_cases c3 : b < xb
            · have d3 : decide (b < xb) = true := decide_eq_true c3
              have hp : pLt (a, b) (a, xb) := .inr ⟨rfl, c3⟩
              rw [if_pos hp] at hinv
              simp -dsimp [f0, f3, f5, hb3, gx, q, paOd, d1]
              refine ⟨hlt', ?_⟩
              simp -dsimp [f0, f3, f5, hb3, gx, q, paOd, d1]
              refine ⟨hlt', ?_⟩
              simp -dsimp [f0, f3, f5, hb3, gx, q, paHn, paOd, d1, d3]
              refine ⟨hi, ?_⟩
              simp -dsimp [paHn, paOd, f0, f3, f5, hb3, q]
              refine ⟨⟨hi, .inr hlt'⟩, ?_⟩
              have s1' := s1 B q
              simp -dsimp [paHn, paOd, f0, f3, f5, hb3, q, s1']
              refine app_at (n := 0) (h := none) (es := []) (t := 58) (sz := 2) ⟨fun _ h => (by cases h), fun _ => rfl⟩ rfl rfl rfl (by simp; omega) (by simp; omega) ?_
              intro h1 H1 hr1 st1
              rw [← List.map_take] at hr1
              have q1 := st1.old q (by simp)
              have b1 := st1.old hb3 (by simp)
              simp -dsimp [paHn, paOd, f0, f3, f5, b1, q1, hi, hlt']
              have el : ((l.take i).map prC).length = i := by simp; omega
              refine app_at (h := h1) (es := [] ++ (l.take i).map prC) (t := 58) (sz := 2) hr1 (by simp; omega) rfl rfl (by simp; omega) (by simp; omega) ?_
              intro h2 H2 hr2 st2
              have q2 : H2[k]? = some (prR l) := st2.old q1 (fun e => by
                rcases st1.new with e1 | ⟨j, e1, hj⟩
                · rw [e1] at e; cases e
                · rw [e1] at e; cases e; omega)
              simp -dsimp [paHn, paOd, f0, f3, f5, q2, hi, hlt']
              have s2' := s2 H2 q2
              simp -dsimp [paHn, paOd, f0, f3, f5, q2, hi, hlt', s2']
              refine app_at (h := h2) (es := ([] ++ (l.take i).map prC) ++ [[I a, I b]]) (t := 58) (sz := 2) hr2 (by simp; omega) rfl rfl (by simp; omega) (by simp; omega) ?_
              intro h3 H3 hr3 st3
              have hEe : ([] ++ (l.take i).map prC) ++ [[I a, I b]] ++ ((l.map prC).drop i) = E.map prC := by
                rw [← hinv, ← List.map_drop, hdr]; simp [prC]
              rw [hEe] at hr3
              rw [hEe]
              simp -dsimp
              refine ⟨h3, rfl, hr3, ?_⟩
              have st := (st1.trans st2).trans st3
              have stB : Stp H B (some k) (some k) := by rw [hB.out]; exact .app _ _ _
              refine ⟨Nat.le_trans stB.len st.len, fun j hj hne => by rw [st.get j (by rw [hBl]; omega) (by simp), hB.out, List.getElem?_append_left hj], ?_⟩
              rcases st.new with e | ⟨j, e, hj⟩
              · rw [e] at hr3
                have := hr3.nil rfl
                rw [← hinv] at this
                simp at this
              · exact .inr ⟨j, e, by omega⟩
            · have d3 : decide (b < xb) = false := decide_eq_false c3
              have hp : ¬ pLt (a, b) (a, xb) := by unfold pLt; simp only; omega
              rw [if_neg hp] at hinv
              simp -dsimp [f0, f3, f5, hb3, gx, q, paOd, d1]
              refine ⟨hlt', ?_⟩
              simp -dsimp [f0, f3, f5, hb3, gx, q, paOd, d1]
              refine ⟨hlt', ?_⟩
              simp -dsimp [f0, f3, f5, hb3, gx, q, paOd, d1, d3]
              exact ⟨i + 1, by omega, wrapS (by omega), by omega, by rw [htk, List.append_assoc]; exact hinv⟩
          · have d2 : (xa == a) = false := by simpa using c2
            have hp : ¬ pLt (a, b) (xa, xb) := by unfold pLt; simp only; omega
            rw [if_neg hp] at hinv
            simp -dsimp [f0, f3, f5, hb3, gx, q, paOd, d1, d2]
            refine ⟨hlt', ?_⟩
            simp -dsimp [f0, f3, f5, hb3, gx, q, paOd, d1, d2]
            exact ⟨i + 1, by omega, wrapS (by omega), by omega, by rw [htk, List.append_assoc]; exact hinv⟩
    · have hnil : l.drop i = [] := List.drop_of_length_le (by omega)
      have hall : l.take i = l := List.take_of_length_le (by omega)
      rw [hnil, hall, putP] at hinv
      simp -dsimp [f0, f3, hb3, paHn]
      refine appendVW_hs (es := l.map prC) q (by simp) (by simp) (by simp; omega) (by simp; omega) ?_
      simp -dsimp
      refine ⟨some k, by rw [← hinv]; simp [hrow], ⟨fun j hj => by cases hj; rw [← hinv, List.getElem?_set_self (by omega)]; simp [prC], fun h => by cases h⟩, by rw [List.length_set]; omega, fun j hj hne => ?_, .inl rfl⟩
      rw [List.getElem?_set_ne (fun e => hne (by rw [e])), hB.out, List.getElem?_append_left hj]
end Go.Proofs
namespace Go.Proofs
open Go.Mu
theorem riseP_snoc (raw : List Pr) (p : Pr) : riseP (raw ++ [p]) = putP p (riseP raw) := by unfold riseP; rw [List.foldl_append]; rfl
theorem riseP_add (raw : List Pr) (a b : Int) : addR (min a b) (max a b) (riseP raw) = riseP (raw ++ prs a b) := by
  unfold addR prs
  by_cases h : a = b
  · subst h; rw [if_pos (by omega), if_pos rfl, List.append_nil]
  · rw [if_neg (by omega), if_neg h, riseP_snoc]
def InR (l : Linear) (raw : List Pr) : Prop := ∀ p ∈ raw, (0 ≤ p.1 ∧ p.1 < l.vars) ∧ 0 ≤ p.2 ∧ p.2 < l.vars
theorem InR.add {l : Linear} {raw : List Pr} (h : InR l raw) {a b : Int} (ha : 0 ≤ a ∧ a < l.vars) (hb : 0 ≤ b ∧ b < l.vars) : InR l (raw ++ prs a b) := fun p hp => by
  rcases List.mem_append.1 hp with hp | hp
  · exact h p hp
  · obtain ⟨_, q⟩ := prs_mem hp
    omega
theorem riseP_bound {l : Linear} (ho : LinOk l) {raw : List Pr} (h : InR l raw) : (riseP raw).length ≤ 2^28 := by
  have hv := ho.vars
  have hin : ∀ p ∈ riseP raw, (0 ≤ p.1 ∧ p.1 < 16384) ∧ 0 ≤ p.2 ∧ p.2 < 16384 := fun p hq => by
    have := h p ((riseP_mem _ _).1 hq); omega
  have hnd : ((riseP raw).map fun p => (p.1 * 16384 + p.2).toNat).Nodup := by
    unfold List.Nodup
    refine List.Pairwise.map _ ?_ (List.Pairwise.and_mem.1 (riseP_rise raw))
    rintro a b ⟨ha, hb, hab⟩ e
    have h1 := hin a ha
    have h2 := hin b hb
    have : a = b := Prod.ext (by omega) (by omega)
    rw [this] at hab
    exact pLt_irr hab
  have := nodup_len (2^28) _ hnd (fun j hj => by
    obtain ⟨p, hq, rfl⟩ := List.mem_map.1 hj
    have := hin p hq
    omega)
  rwa [List.length_map] at this
def MtI (l : Linear) (B : List Blk) (raw : List Pr) (a : AV) (M : List Blk) : Prop := ∃ h, a = hrow h (riseP raw).length ∧ OwnP B M h (riseP raw) ∧ InR l raw
theorem MtI.eq {l : Linear} {B M : List Blk} {raw raw' : List Pr} {a : AV} (h : MtI l B raw a M) (e : raw' = raw) : MtI l B raw' a M := by rw [e]; exact h
theorem radd_at (l : Linear) (ho : LinOk l) (raw : List Pr) (hraw : InR l raw) (a b : Int) (h : Option Nat) (M : List Blk) (hr : AtP M h (riseP raw)) : ACalls Tryz.prog 64 [hrow h (riseP raw).length, .agg [I (min a b), I (max a b)]] M (RPutP M h (riseP (raw ++ prs a b))) := by
  have := radd_ok (riseP raw) (min a b) (max a b) h M hr (by have := riseP_bound ho hraw; omega)
  rwa [riseP_add] at this
theorem rmeet_ok (l : Linear) (hs : l.Sm) (ho : LinOk l) (H : List Blk) : ACalls Tryz.prog 24 [.agg l.cells] H (fun e H' => e = .ret (.vs 2 ((meetL l).map prC)) ∧ H' = H) := by
  refine acalls_under fun hu _ => acalls_weakE (acalls_tidy (acalls_of_vc (hn := fun d => d == 78 || d == 108 || d == 126) (od := fun _ => none) Tryz.func24 rfl (by kernel_rfl) ?_))
  have hpl := hs.params
  have hrl := hs.rets
  have hc := hs.code
  have hlines := ho.lines
  have c1 := fun H => lives_ok l hs ho H
  have c2 := fun i (hi : i < l.code.length) H => rbehind_ok l hs ho i hi H
  have c3 := fun H => first_ok l hs ho H
  simp only [Linear.cells] at c1 c2 c3
  obtain ⟨B, hB⟩ : ∃ B, B = H ++ [.box 25 [I l.vars, Int.sl l.params, Int.sl l.rets, I l.frame, Line.sl l.code]] := ⟨_, rfl⟩
  have hb : B[H.length]? = some (.box 25 [I l.vars, Int.sl l.params, Int.sl l.rets, I l.frame, Line.sl l.code]) := by rw [hB]; simp
  simp -dsimp
  rw [← hB]
  replace hB := Hid.mk hB
  refine acallsW_det (c1 _) ?_
  simp -dsimp
  refine loop_rule (hn := fun d => d == 78 || d == 108 || d == 126) (od := fun _ => none) (fun (i : Nat) f M => f 1 = .bp H.length 0 ∧ f 3 = Ints.sl (lvL l) ∧ f 5 = I i ∧ i ≤ l.code.length ∧ MtI l B (lnTo l i) (f 4) M) (fun i => l.code.length - i) (by kernel_rfl) 0 (by refine ⟨by simp, by simp, by simp, by omega, none, by simp [lnTo]; rfl, by simp [lnTo]; exact .nil1 _ _ _, fun p hp => by simp [lnTo] at hp⟩) ?_
  rintro i f M ⟨f1, f3, f5, hi, h, f4, ow, hraw⟩
  have r1 := ow.old hb
  simp -dsimp [f1, f3, f5, r1]
  refine condVW_introD (fun hlt => ?_) (fun hlt => ?_)
  · have hlt' : i < l.code.length := by omega
    have hx := List.getElem?_eq_getElem hlt'
    have hxm : l.code[i] ∈ l.code := List.getElem_mem hlt'
    have hlo := hlines _ hxm
    obtain ⟨x, hxe⟩ : ∃ x, x = l.code[i] := ⟨_, rfl⟩
    rw [← hxe] at hx hlo
    clear hxe hxm
    have g41 : (l.code.map Line.cells)[i]? = some x.cells := by rw [List.getElem?_map, hx]; rfl
    have hnew := lnTo_succ hx
    have hds := fun j d h => dfTo_succ (l := l) (i := i) (x := x) (j := j) (d := d) h
    have hd0 : dfTo l i x 0 = [] := by unfold dfTo; simp
    have hdl := defs_len x
    obtain ⟨_, _, l3⟩ := line_in hlo
    have cu := fun H => ruses_ok x l.vars hlo H
    obtain ⟨us, hus⟩ : ∃ us, us = x.uses := ⟨_, rfl⟩
    obtain ⟨dl, hdf⟩ : ∃ dl, dl = x.defs := ⟨_, rfl⟩
    obtain ⟨D, hD⟩ : ∃ D, D = dfTo l i x := ⟨_, rfl⟩
    obtain ⟨BT, hBT⟩ : ∃ BT, BT = bhTo x := ⟨_, rfl⟩
    obtain ⟨mv, hmv⟩ : ∃ mv, mv = mvB x := ⟨_, rfl⟩
    have hbs := fun d bs b => bhTo_snoc x d bs b
    have hb0 : ∀ d, bhTo x d [] = [] := fun d => rfl
    have hmB : ∀ b, mvB x b = (decide (x.ins.kind = 2) && decide (x.ins.a = b)) := fun b => rfl
    rw [← hus, ← hdf] at cu
    rw [← hdf, ← hD] at hnew
    rw [← hdf] at hds hdl l3
    simp only [← hD, ← hBT] at hds hd0
    simp only [← hBT, ← hmv] at hbs hb0
    simp only [← hmv] at hmB
    clear hus hdf hD hBT hmv hx hlo
    obtain ⟨kind, ⟨ik, op, d, a, b, c, word, stack⟩, var, label⟩ := x
    simp only [Line.cells] at cu g41
    simp only at hmB
    have hnew := Hid.mk hnew
    have hds := Hid.mk hds
    have hbs := Hid.mk hbs
    have hmB := Hid.mk hmB
    have hd0 := Hid.mk hd0
    have hb0 := Hid.mk hb0
    have l3 := Hid.mk l3
    simp -dsimp [f1, f3, f5, r1, g41]
    refine acallsW_det (cu _) ?_
    simp -dsimp [f1, f3, f5]
    refine loop_rule (hn := fun d => d == 78 || d == 108 || d == 126) (od := fun _ => none) (fun (j : Nat) f M => f 1 = .bp H.length 0 ∧ f 3 = Ints.sl (lvL l) ∧ f 5 = I i ∧ f 7 = Int.sl dl ∧ f 8 = I j ∧ j ≤ dl.length ∧ MtI l B (lnTo l i ++ D j) (f 4) M) (fun j => dl.length - j) (by kernel_rfl) 0 (by refine ⟨by simp [f1], by simp [f3], by simp [f5], by simp, by simp, by omega, MtI.eq (raw := lnTo l i) ⟨h, by simp [f4], ow, hraw⟩ (by rw [hd0.out]; simp)⟩) ?_
    clear f1 f3 f5 f4 hraw ow h r1 f M
    rintro j f M ⟨f1, f3, f5, f7, f8, hj, h, f4, ow, hraw⟩
    have r1 := ow.old hb
    simp -dsimp [f1, f3, f5, f7, f8]
    refine condVW_introD (fun hlt2 => ?_) (fun hlt2 => ?_)
    · have hlt2' : j < dl.length := by omega
      have hdx := List.getElem?_eq_getElem hlt2'
      have hdm : dl[j] ∈ dl := List.getElem_mem hlt2'
      obtain ⟨dd, hdd⟩ : ∃ dd, dd = dl[j] := ⟨_, rfl⟩
      rw [← hdd] at hdx hdm
      clear hdd
      have hdv := l3.out dd hdm
      have hdn := hds.out j dd hdx
      have cbi := fun M => c2 i hlt' M
      have hbin : ∀ v ∈ behL l i, 0 ≤ v ∧ v < l.vars := fun v hv => behL_in ho hv
      obtain ⟨bh, hbh⟩ : ∃ bh, bh = behL l i := ⟨_, rfl⟩
      have hbl : bh.length ≤ 2^40 := by
        have h1 := rising_len (a := 0) (b := l.vars) (l := behL l i) (riseL_rise _) (fun x hx => behL_in ho hx)
        have h2 := ho.vars
        rw [hbh]; omega
      rw [← hbh] at hdn cbi hbin
      clear hbh
      have hdn := Hid.mk hdn
      have hbin := Hid.mk hbin
      simp -dsimp [f1, f3, f5, f7, f8, r1]
      refine acallsW_det (cbi _) ?_
      simp -dsimp [f1, f3, f5, f7, f8]
      refine loop_rule (hn := fun d => d == 78 || d == 108 || d == 126) (od := fun _ => none) (fun (k : Nat) f M => f 1 = .bp H.length 0 ∧ f 3 = Ints.sl (lvL l) ∧ f 5 = I i ∧ f 7 = Int.sl dl ∧ f 8 = I j ∧ f 9 = Int.sl bh ∧ f 10 = I k ∧ k ≤ bh.length ∧ MtI l B (lnTo l i ++ D j ++ BT dd (bh.take k)) (f 4) M) (fun k => bh.length - k) (by kernel_rfl) 0 (by refine ⟨by simp [f1], by simp [f3], by simp [f5], by simp [f7], by simp [f8], by simp, by simp, by omega, MtI.eq (raw := lnTo l i ++ D j) ⟨h, by simp [f4], ow, hraw⟩ (by rw [List.take_zero, hb0.out]; simp)⟩) ?_
      clear f1 f3 f5 f7 f8 f4 hraw ow h r1 f M
      rintro k f M ⟨f1, f3, f5, f7, f8, f9, f10, hk, h, f4, ow, hraw⟩
      have r1 := ow.old hb
      simp -dsimp [f1, f3, f5, f7, f8, f9, f10]
      refine condVW_introD (fun hlt3 => ?_) (fun hlt3 => ?_)
      · have hlt3' : k < bh.length := by omega
        have hbx := List.getElem?_eq_getElem hlt3'
        have hbm : bh[k] ∈ bh := List.getElem_mem hlt3'
        obtain ⟨bb, hbb⟩ : ∃ bb, bb = bh[k] := ⟨_, rfl⟩
        have htk : bh.take (k + 1) = bh.take k ++ [bb] := by rw [hbb]; exact List.take_succ_eq_append_getElem hlt3'
        rw [← hbb] at hbx hbm
        clear hbb
        have hbv := hbin.out bb hbm
        have hbn := hbs.out dd (bh.take k) bb
        rw [← htk] at hbn
        have hm := hmB.out bb
        clear htk
        obtain ⟨raw, hrw⟩ : ∃ raw, raw = lnTo l i ++ D j ++ BT dd (bh.take k) := ⟨_, rfl⟩
        rw [← hrw] at f4 ow hraw
        have ow1 := ow.app [Blk.box 65 [I ik, I op, I d, I a, I b, I c, U word, Bo stack]]
        have add := fun M hr => radd_at l ho raw hraw dd bb h M hr
        have hraw2 := hraw.add hdv hbv
        have cont : mv bb = true → ∀ (f' : Fr) M', f' 4 = hrow h (riseP raw).length → OwnP B M' h (riseP raw) → MtI l B (lnTo l i ++ D j ++ BT dd (bh.take (k + 1))) (f' 4) M' := fun hmv f' M' q1 q2 => by
          rw [hbn, if_pos hmv, List.append_nil, ← hrw]
          exact ⟨h, q1, q2, hraw⟩
        have step : mv bb = false → lnTo l i ++ D j ++ BT dd (bh.take (k + 1)) = raw ++ prs dd bb := fun hmv => by
          rw [hbn, hmv, if_neg (by decide), hrw]; simp
        by_cases hk2 : ik = 2
        · have q1 : (ik == 2) = true := by simpa using hk2
          by_cases ha2 : a = bb
          · have q2 : (a == bb) = true := by simpa using ha2
            have hmv : mv bb = true := by rw [hm]; simp [hk2, ha2]
            have fin := cont hmv
            clear cont step hm
            simp -dsimp [f1, f3, f5, f7, f8, f9, f10, r1, g41, hbx, q1, q2]
            exact ⟨k + 1, by omega, wrapS (by omega), by omega, by rw [← List.append_assoc]; exact fin f _ f4 ow1⟩
          · have q2 : (a == bb) = false := by simpa using ha2
            have hmv : mv bb = false := by rw [hm]; simp [hk2, ha2]
            have hst := step hmv
            clear cont step hm
            simp -dsimp [f1, f3, f4, f5, f7, f8, f9, f10, r1, g41, hbx, hdx, q1, q2]
            refine callDW_intro (pairR_ok _ _ _) ?_
            simp -dsimp [f1, f3, f4, f5, f7, f8, f9, f10]
            refine acallsW_of (add _ ow1.at') ?_
            rintro e M2 ⟨h2, rfl, r2, s2⟩
            have ow2 := ow1.step r2 s2
            simp -dsimp [f1, f3, f5, f7, f8, f9, f10]
            refine ⟨k + 1, by omega, wrapS (by omega), by omega, ?_⟩
            rw [← List.append_assoc, hst]
            exact ⟨h2, rfl, ow2, hraw2⟩
        · have q1 : (ik == 2) = false := by simpa using hk2
          have hmv : mv bb = false := by rw [hm]; simp [hk2]
          have hst := step hmv
          clear cont step hm
          simp -dsimp [f1, f3, f4, f5, f7, f8, f9, f10, r1, g41, hbx, hdx, q1]
          refine callDW_intro (pairR_ok _ _ _) ?_
          simp -dsimp [f1, f3, f4, f5, f7, f8, f9, f10]
          refine acallsW_of (add _ ow1.at') ?_
          rintro e M2 ⟨h2, rfl, r2, s2⟩
          have ow2 := ow1.step r2 s2
          simp -dsimp [f1, f3, f5, f7, f8, f9, f10]
          refine ⟨k + 1, by omega, wrapS (by omega), by omega, ?_⟩
          rw [← List.append_assoc, hst]
          exact ⟨h2, rfl, ow2, hraw2⟩
      · rw [List.take_of_length_le (by omega)] at ow hraw f4
        simp -dsimp [f1, f3, f5, f7, f8]
        exact ⟨j + 1, by omega, wrapS (by omega), by omega, MtI.eq (raw := lnTo l i ++ D j ++ BT dd bh) ⟨h, f4, ow, hraw⟩ (by rw [hdn.out]; simp)⟩
    · have hj' : j = dl.length := by omega
      subst hj'
      simp -dsimp [f1, f3, f5]
      exact ⟨i + 1, by omega, wrapS (by omega), by omega, MtI.eq (raw := lnTo l i ++ D dl.length) ⟨h, f4, ow, hraw⟩ (by rw [hnew.out])⟩
  · have hi' : i = l.code.length := by omega
    subst hi'
    obtain ⟨fs, hfs⟩ : ∃ fs, fs = liveL l 0 := ⟨_, rfl⟩
    have hfin : ∀ v ∈ fs, 0 ≤ v ∧ v < l.vars := fun v hv => by rw [hfs] at hv; exact ((liveL_mem l 0 v).1 hv).1
    have hfl : fs.length ≤ 2^36 := by
      rw [hfs]
      have h1 := liveL_len l 0
      have h2 := ho.vars
      omega
    have hmeet : meetL l = riseP (lnTo l l.code.length ++ plTo l.params (l.params ++ fs)) := by
      rw [hfs]; rfl
    rw [← hfs] at c3
    have hpin := ho.params
    obtain ⟨K, hK⟩ : ∃ K, K = lnTo l l.code.length := ⟨_, rfl⟩
    rw [← hK] at f4 ow hraw hmeet
    have hmeet := Hid.mk hmeet
    have hpin := Hid.mk hpin
    have hfin := Hid.mk hfin
    clear hK hfs hlines c1 c2
    simp -dsimp [f1, f3, r1]
    refine acallsW_det (c3 _) ?_
    simp -dsimp [f1]
    refine loop_rule (hn := fun d => d == 78 || d == 108 || d == 126) (od := fun _ => none) (fun (i : Nat) f M => f 1 = .bp H.length 0 ∧ f 12 = Int.sl fs ∧ f 13 = I i ∧ i ≤ l.params.length ∧ MtI l B (K ++ plTo (l.params.take i) (l.params ++ fs)) (f 4) M) (fun i => l.params.length - i) (by kernel_rfl) 0 (by refine ⟨by simp [f1], by simp, by simp, by omega, MtI.eq (raw := K) ⟨h, by simp [f4], ow, hraw⟩ (by simp [plTo])⟩) ?_
    clear f1 f3 f5 f4 hraw ow h r1 f M
    rintro i f M ⟨f1, f12, f13, hi2, h, f4, ow, hraw⟩
    have r1 := ow.old hb
    simp -dsimp [f1, f12, f13, r1]
    refine condVW_introD (fun hlt => ?_) (fun hlt => ?_)
    · have hlt' : i < l.params.length := by omega
      have hx := List.getElem?_eq_getElem hlt'
      have hxm : l.params[i] ∈ l.params := List.getElem_mem hlt'
      obtain ⟨x, hxe⟩ : ∃ x, x = l.params[i] := ⟨_, rfl⟩
      have htk : l.params.take (i + 1) = l.params.take i ++ [x] := by rw [hxe]; exact List.take_succ_eq_append_getElem hlt'
      rw [← hxe] at hx hxm
      clear hxe
      have hxv := hpin.out x hxm
      have hnew := plTo_snoc (l.params.take i) (l.params ++ fs) x
      rw [← htk] at hnew
      clear htk
      obtain ⟨Q, hQ⟩ : ∃ Q, Q = K ++ plTo (l.params.take i) (l.params ++ fs) := ⟨_, rfl⟩
      have hQn : K ++ plTo (l.params.take (i + 1)) (l.params ++ fs) = Q ++ paTo x (l.params ++ fs) := by rw [hnew, hQ, List.append_assoc]
      rw [← hQ] at f4 ow hraw
      clear hQ hnew
      have hQn := Hid.mk hQn
      simp -dsimp [f1, f12, f13]
      refine loop_rule (hn := fun d => d == 78 || d == 108 || d == 126) (od := fun _ => none) (fun (k : Nat) f M => f 1 = .bp H.length 0 ∧ f 12 = Int.sl fs ∧ f 13 = I i ∧ f 14 = I k ∧ k ≤ l.params.length ∧ MtI l B (Q ++ paTo x (l.params.take k)) (f 4) M) (fun k => l.params.length - k) (by kernel_rfl) 0 (by refine ⟨by simp [f1], by simp [f12], by simp [f13], by simp, by omega, MtI.eq (raw := Q) ⟨h, by simp [f4], ow, hraw⟩ (by simp [paTo])⟩) ?_
      clear f1 f12 f13 f4 hraw ow h r1 f M
      rintro k f M ⟨f1, f12, f13, f14, hk, h, f4, ow, hraw⟩
      have r1 := ow.old hb
      simp -dsimp [f1, f12, f13, f14, r1]
      refine condVW_introD (fun hlt2 => ?_) (fun hlt2 => ?_)
      · have hlt2' : k < l.params.length := by omega
        have hy := List.getElem?_eq_getElem hlt2'
        have hym : l.params[k] ∈ l.params := List.getElem_mem hlt2'
        obtain ⟨y, hye⟩ : ∃ y, y = l.params[k] := ⟨_, rfl⟩
        have htk : l.params.take (k + 1) = l.params.take k ++ [y] := by rw [hye]; exact List.take_succ_eq_append_getElem hlt2'
        rw [← hye] at hy hym
        clear hye
        have hyv := hpin.out y hym
        have hnew := paTo_snoc x (l.params.take k) y
        rw [← htk] at hnew
        obtain ⟨raw, hrw⟩ : ∃ raw, raw = Q ++ paTo x (l.params.take k) := ⟨_, rfl⟩
        have hst : Q ++ paTo x (l.params.take (k + 1)) = raw ++ prs x y := by rw [hnew, hrw, List.append_assoc]
        rw [← hrw] at f4 ow hraw
        have add := radd_at l ho raw hraw x y h M ow.at'
        have hraw2 := hraw.add hxv hyv
        clear hnew htk hrw
        simp -dsimp [f1, f4, f12, f13, f14, r1, hy, hx]
        refine callDW_intro (pairR_ok _ _ _) ?_
        simp -dsimp [f1, f4, f12, f13, f14, r1, hy, hx]
        refine acallsW_of add ?_
        rintro e M2 ⟨h2, rfl, r2, s2⟩
        have ow2 := ow.step r2 s2
        simp -dsimp [f1, f12, f13, f14]
        refine ⟨k + 1, by omega, wrapS (by omega), by omega, ?_⟩
        exact MtI.eq (raw := raw ++ prs x y) ⟨h2, rfl, ow2, hraw2⟩ hst
      · rw [List.take_of_length_le (by omega)] at ow hraw f4
        simp -dsimp [f1, f12, f13]
        refine loop_rule (hn := fun d => d == 78 || d == 108 || d == 126) (od := fun _ => none) (fun (k : Nat) f M => f 1 = .bp H.length 0 ∧ f 12 = Int.sl fs ∧ f 13 = I i ∧ f 15 = I k ∧ k ≤ fs.length ∧ MtI l B (Q ++ paTo x (l.params ++ fs.take k)) (f 4) M) (fun k => fs.length - k) (by kernel_rfl) 0 (by refine ⟨by simp [f1], by simp [f12], by simp [f13], by simp, by omega, MtI.eq (raw := Q ++ paTo x l.params) ⟨h, by simp [f4], ow, hraw⟩ (by simp [paTo])⟩) ?_
        clear f1 f12 f13 f14 f4 hraw ow h r1 f M
        rintro k f M ⟨f1, f12, f13, f15, hk, h, f4, ow, hraw⟩
        have r1 := ow.old hb
        simp -dsimp [f1, f12, f13, f15, r1]
        refine condVW_introD (fun hlt2 => ?_) (fun hlt2 => ?_)
        · have hlt2' : k < fs.length := by omega
          have hy := List.getElem?_eq_getElem hlt2'
          have hym : fs[k] ∈ fs := List.getElem_mem hlt2'
          obtain ⟨y, hye⟩ : ∃ y, y = fs[k] := ⟨_, rfl⟩
          have htk : fs.take (k + 1) = fs.take k ++ [y] := by rw [hye]; exact List.take_succ_eq_append_getElem hlt2'
          rw [← hye] at hy hym
          clear hye
          have hyv := hfin.out y hym
          have hnew := paTo_snoc x (l.params ++ fs.take k) y
          rw [List.append_assoc, ← htk] at hnew
          obtain ⟨raw, hrw⟩ : ∃ raw, raw = Q ++ paTo x (l.params ++ fs.take k) := ⟨_, rfl⟩
          have hst : Q ++ paTo x (l.params ++ fs.take (k + 1)) = raw ++ prs x y := by rw [hnew, hrw, List.append_assoc]
          rw [← hrw] at f4 ow hraw
          have add := radd_at l ho raw hraw x y h M ow.at'
          have hraw2 := hraw.add hxv hyv
          clear hnew htk hrw
          simp -dsimp [f1, f4, f12, f13, f15, r1, hy, hx]
          refine callDW_intro (pairR_ok _ _ _) ?_
          simp -dsimp [f1, f4, f12, f13, f15, r1, hy, hx]
          refine acallsW_of add ?_
          rintro e M2 ⟨h2, rfl, r2, s2⟩
          have ow2 := ow.step r2 s2
          simp -dsimp [f1, f12, f13, f15]
          refine ⟨k + 1, by omega, wrapS (by omega), by omega, ?_⟩
          exact MtI.eq (raw := raw ++ prs x y) ⟨h2, rfl, ow2, hraw2⟩ hst
        · rw [List.take_of_length_le (by omega)] at ow hraw f4
          simp -dsimp [f1, f12, f13]
          exact ⟨i + 1, by omega, wrapS (by omega), by omega, MtI.eq (raw := Q ++ paTo x (l.params ++ fs)) ⟨h, f4, ow, hraw⟩ hQn.out⟩
    · rw [List.take_of_length_le (by omega), ← hmeet.out] at ow f4
      have ow2 : OwnP H M h (meetL l) := by rw [hB.out] at ow; exact ow.less
      simp -dsimp [f4]
      exact tidy_rowA hu ow2 (by
        induction meetL l with
        | nil => rfl
        | cons x l ih => rw [List.map_cons, List.flatten_cons, List.all_append, ih]; simp [AV.frzB]) (by simp) ⟨rfl, rfl⟩
end Go.Proofs
namespace Go.Proofs
open Go.Mu
theorem prs_frzB (l : List Pr) : (l.map prC).flatten.all AV.frzB = true := by
  induction l with
  | nil => rfl
  | cons x l ih => rw [List.map_cons, List.flatten_cons, List.all_append, ih]; simp [AV.frzB]
theorem avCells_prV (p : Pr) : avCells (.v (prV p)) = some (prC p) := (rfl)
abbrev prB (l : List Pr) : Blk := ownB 58 2 (l.map prC)
abbrev prS (k : Nat) (l : List Pr) : AV := ownS k (l.map prC)
theorem pmkeys_ok (km : Nat) (H : List Blk) : ACalls Tryz.prog 55 [.hm km] H (fun e H' => e = .ret (.fn (.func 95) [] [.bp H.length 0]) ∧ H' = H ++ [.box 120 [.hm km]]) := by
  refine acalls_of_vc (hn := fun _ => false) (od := fun _ => none) Tryz.func55 rfl (by kernel_rfl) ?_
  simp -dsimp
theorem pmkeys_seq (t : List Pr) (km b base : Nat) (h1 : km < base) (h2 : b < base) : ASeqN Tryz.prog 95 [.bp b 0] (t.map fun x => [AV.agg (prC x)]) base (fun A => A[b]? = some (.box 120 [.hm km]) ∧ A[km]? = some (.map (standP t))) := by
  intro k J Jx hJ hy A h0
  have hl : (t.map fun x => [AV.agg (prC x)]).length = t.length := by simp
  rw [hl] at hy ⊢
  refine acalls_of_vc (hn := fun _ => false) (od := fun _ => none) Tryz.func95 rfl (by kernel_rfl) ?_
  obtain ⟨a0, a1, a2⟩ := hJ [] A h0
  have sml : (standP t).length = t.length := by simp [standP]
  simp -dsimp [a1, a2]
  refine loop_rule (hn := fun _ => false) (od := fun _ => none) (fun (s : List Nat) f H' => (∃ A' B, H' = A' ++ .it (some km) t.length s :: B ∧ J s A') ∧ f 0 = .yl k ∧ f 5 = .hi base ∧ s.Nodup ∧ (∀ j ∈ s, j < t.length)) (fun s => t.length - s.length) (by kernel_rfl) []
    ⟨⟨A, [], by rw [sml], h0⟩, by simp, by simp [a0], List.nodup_nil, fun j hj => by cases hj⟩ ?_
  rintro s f _ ⟨⟨A', B, rfl, hjs⟩, f0, f5, hs1, hs2⟩
  obtain ⟨b0, b1, b2⟩ := hJ s A' hjs
  simp -dsimp [f0, f5]
  refine nextVW_intro (m := km) (n := t.length) (seen := s) (es := standP t) (by rw [← b0]; simp) (get_app_old b2 _) sml (fun j p hj hp => ?_) (fun hall => ?_)
  · have hp' := hp
    simp only [standP, List.getElem?_map] at hp'
    obtain ⟨n, hx, rfl⟩ := Option.map_eq_some_iff.1 hp'
    have hjl : j < t.length := (List.getElem?_eq_some_iff.1 hx).1
    have e1 : (A' ++ Blk.it (some km) t.length s :: B).set base (.it (some km) t.length (s ++ [j])) = A' ++ .it (some km) t.length (s ++ [j]) :: B := by rw [← b0]; simp
    rw [e1]
    simp -dsimp [f0, f5]
    refine entryVW_intro (m := km) (n := t.length) (seen := s) (es := standP t) (j := j) (by rw [← b0]; simp) (get_app_old b2 _) sml hp ?_
    have gx : ∀ X : Blk, (A' ++ Blk.it (some km) t.length (s ++ [j]) :: (B ++ [X]))[A'.length + (B.length + 1)]? = some X := fun X => by rw [List.getElem?_append_right (by omega)]; simp
    have sx : ∀ X Y : Blk, (A' ++ Blk.it (some km) t.length (s ++ [j]) :: (B ++ [X])).set (A'.length + (B.length + 1)) Y = A' ++ Blk.it (some km) t.length (s ++ [j]) :: (B ++ [Y]) := fun X Y => by rw [List.set_append_right _ _ (by omega)]; simp
    simp -dsimp [f0, f5, avCells_prV, gx, sx]
    refine ayieldW_of (hy s j A' (.it (some km) t.length (s ++ [j]) :: (B ++ [Blk.box 58 (prC n)])) [.agg (prC n)] hs1 hs2 hj (by rw [List.getElem?_map, hx]; rfl) hjs) ?_
    rintro e M ⟨A2, C, rfl, ⟨rfl, h1⟩ | ⟨rfl, h2⟩⟩
    · simp -dsimp [f0, f5]
      have := nodup_less hs1 hs2 hj hjl
      obtain ⟨q1, q2⟩ := nodup_snoc hs1 hs2 hj hjl
      exact ⟨s ++ [j], by rw [List.length_append]; simp; omega, ⟨A2, ⟨B ++ [Blk.box 58 (prC n)] ++ C, by simp⟩, h1⟩, q1, q2⟩
    · simp -dsimp
      exact ⟨A2, ⟨_, rfl⟩, .inr h2⟩
  · simp -dsimp
    exact ⟨A', ⟨_, rfl⟩, .inl ⟨s, hs1, hs2, hall, hjs⟩⟩
def prsOf (t : List Pr) (s : List Nat) : List Pr := s.map fun j => (t[j]?).getD (0, 0)
theorem prsOf_perm {t : List Pr} {s : List Nat} (hs : s.Nodup) (h1 : ∀ j ∈ s, j < t.length) (h2 : ∀ j, j < t.length → j ∈ s) : (prsOf t s).Perm t := by
  have hp : s.Perm (List.range t.length) := (List.perm_ext_iff_of_nodup hs List.nodup_range).2 fun j => ⟨fun h => List.mem_range.2 (h1 j h), fun h => h2 j (List.mem_range.1 h)⟩
  have e : (List.range t.length).map (fun j => (t[j]?).getD (0, 0)) = t := by
    apply List.ext_getElem?
    intro j
    rw [List.getElem?_map]
    by_cases hj : j < t.length
    · rw [List.getElem?_range hj]; simp [hj]
    · rw [List.getElem?_eq_none (by simp; omega), List.getElem?_eq_none (by omega)]; rfl
  have q := hp.map (fun j => (t[j]?).getD (0, 0))
  rw [e] at q
  exact q
theorem pappseq_ok (t : List Pr) (km b : Nat) (ht : t.length ≤ 2^40) (H : List Blk) (hb : H[b]? = some (.box 120 [.hm km])) (hk : H[km]? = some (.map (standP t))) :
    ACalls Tryz.prog 126 [nilS, .fn (.func 95) [] [.bp b 0]] H (fun e H' => ∃ ns, ns.Perm t ∧ e = .ret (prS H.length ns) ∧ H' = H ++ [prB ns]) := by
  refine acalls_under fun hu _ => acalls_tidy (acalls_spare 1 (acalls_of_vcM (hn := fun d => d == 11) (od := fun _ => none) Tryz.func126 rfl (by kernel_rfl) ?_))
  have hbl := lt_of_get hb
  have hkl := lt_of_get hk
  obtain ⟨G, hG⟩ : ∃ G : List Pr → List Blk, ∀ l, G l = H ++ [prB l, .box 52 [prS H.length l]] := ⟨_, fun _ => rfl⟩
  have hG0 : H ++ [Blk.pend, .box 52 [nilS]] = G [] := by rw [hG]; simp [ownB, ownS]
  have gl : ∀ l, (G l).length = H.length + 2 := fun l => by rw [hG]; simp
  have g0 : ∀ l L, (G l ++ L)[H.length]? = some (prB l) := fun l L => by rw [hG]; simp
  have g1 : ∀ l L, (G l ++ L)[H.length + 1]? = some (.box 52 [prS H.length l]) := fun l L => by rw [hG]; simp
  have gs : ∀ l l' L, ((G l ++ L).set H.length (prB l')).set (H.length + 1) (.box 52 [prS H.length l']) = G l' ++ L := fun l l' L => by rw [hG, hG]; simp
  have gg : ∀ l l' L, ((G l ++ L).set H.length (prB l'))[H.length + 1]? = some (.box 52 [prS H.length l]) := fun l l' L => by rw [List.getElem?_set_ne (by omega)]; exact g1 l L
  have go : ∀ l i x, H[i]? = some x → (G l)[i]? = some x := fun l i x h => by rw [hG]; exact get_app_old h _
  simp -dsimp
  rw [hG0]
  refine awp_rangeN (t.map fun x => [AV.agg (prC x)]) (fun A => A[b]? = some (.box 120 [.hm km]) ∧ A[km]? = some (.map (standP t))) (fun s A => A = G (prsOf t s) ∧ s.length ≤ t.length) (fun _ _ => False) (by kernel_rfl) rfl (by simp only [List.mem_map]; rintro e ⟨p, _, rfl⟩; rfl) ?_ ⟨rfl, Nat.zero_le _⟩ ?_ ?_ ?_ ?_ ?_
  · rw [gl]
    intro k J Jx hJ hy A h0
    refine pmkeys_seq t km b (H.length + 2 + 2) (by omega) (by omega) k J Jx (fun s A h => ?_) hy A h0
    obtain ⟨h1, A0, bb, rfl, h2, h3, h4⟩ := hJ s A h
    exact ⟨h1, get_app_old h3 _, get_app_old h4 _⟩
  · rintro s A ⟨rfl, _⟩
    exact ⟨by rw [gl, gl], go _ _ _ hb, go _ _ _ hk⟩
  · rintro ex A h
    exact h.elim
  · rintro s j A B e hs1 hs2 hj he ⟨rfl, hsl⟩
    rw [List.getElem?_map] at he
    obtain ⟨n, hp, rfl⟩ := Option.map_eq_some_iff.1 he
    have hjl : j < t.length := (List.getElem?_eq_some_iff.1 hp).1
    simp only [List.length_map] at hs2
    have hlt := nodup_less hs1 hs2 hj hjl
    have hns : prsOf t (s ++ [j]) = prsOf t s ++ [n] := by unfold prsOf; simp [hp]
    have hnl : (prsOf t s).length = s.length := by unfold prsOf; simp
    refine awpW_of_vc (hn := fun _ => false) (od := fun _ => none) (by kernel_rfl) ?_
    simp -dsimp [avCells_prV]
    intro B' hB'
    refine awpW_of_vc (hn := fun d => d == 11) (od := fun _ => none) (by kernel_rfl) ?_
    obtain ⟨W, hW⟩ : ∃ W, W = prsOf t s := ⟨_, rfl⟩
    rw [← hW] at hns hnl ⊢
    have gx : ∀ X : Blk, (G W ++ (B' ++ [X]))[(G W).length + B.length]? = some X := fun X => by rw [← hB']; simp
    simp -dsimp [g1, gx]
    refine appendVW_own (k := H.length) (es := W.map fun s => prC s) (g0 W _) (by simp; omega) (by simp; omega) ?_
    have e : (W.map fun s => prC s) ++ [prC n] = (W ++ [n]).map fun s => prC s := by simp
    rw [e]
    have gg' := gg W (W ++ [n]) (B' ++ [Blk.box 58 (prC n)])
    have gs' := gs W (W ++ [n]) (B' ++ [Blk.box 58 (prC n)])
    obtain ⟨V, hV⟩ : ∃ V, V = (G W ++ (B' ++ [Blk.box 58 (prC n)])).set H.length (prB (W ++ [n])) := ⟨_, rfl⟩
    obtain ⟨sx, hsx⟩ : ∃ sx, sx = ownS H.length ((W ++ [n]).map fun s => prC s) := ⟨_, rfl⟩
    have gs'' : V.set (H.length + 1) (.box 52 [ownS H.length ((W ++ [n]).map fun s => prC s)]) = G (W ++ [n]) ++ (B' ++ [Blk.box 58 (prC n)]) := by rw [hV]; exact gs'
    rw [← hsx] at gs''
    rw [← hV, ← hsx]
    rw [← hV] at gg'
    have o1 : AV.one sx = true := by rw [hsx]; exact one_ownS _ _
    have o2 : avCells sx = some [sx] := by rw [hsx]; exact avCells_ownS _ _
    simp -dsimp [gg', gs'', o1, o2]
    exact roundEnd_of (G (W ++ [n])) [.box 58 (prC n)] rfl ⟨by rw [hns], by omega⟩
  · rintro s A C hs1 hs2 hs3 ⟨rfl, _⟩
    simp only [List.length_map] at hs2 hs3
    have hperm := prsOf_perm hs1 hs2 hs3
    obtain ⟨W, hW⟩ : ∃ W, W = prsOf t s := ⟨_, rfl⟩
    rw [← hW] at hperm ⊢
    have d0 : (G W ++ .dfr true :: C)[H.length + 2]? = some (.dfr true) := by rw [hG]; simp
    have d1 : (G W ++ .dfr true :: C).set (H.length + 2) (.dfr false) = G W ++ .dfr false :: C := by rw [hG]; simp
    have hGl := gl []
    simp -dsimp [g1, gl, d0, d1]
    rw [hG]
    have e : H ++ [prB W, Blk.box 52 [prS H.length W]] ++ .dfr false :: C = (H ++ [prB W]) ++ (.box 52 [prS H.length W] :: .dfr false :: C) := by simp
    rw [e]
    exact tidy_to (by simp) (fun h => underH_appF (n := H.length) (by simp) hu (fun b hb => by
      obtain rfl := List.mem_singleton.1 hb
      exact under_ownB_plain (prs_frzB _))) (under_ownS _ _ _ (by simp)) ⟨W, hperm, rfl, rfl⟩
  · rintro ex A C h
    exact h.elim
theorem pcollect_ok (t : List Pr) (km b : Nat) (ht : t.length ≤ 2^40) (H : List Blk) (hb : H[b]? = some (.box 120 [.hm km])) (hk : H[km]? = some (.map (standP t))) :
    ACalls Tryz.prog 93 [.fn (.func 95) [] [.bp b 0]] H (fun e H' => ∃ ns, ns.Perm t ∧ e = .ret (prS H.length ns) ∧ H' = H ++ [prB ns]) := by
  refine acalls_of_vc (hn := fun _ => false) (od := fun _ => none) Tryz.func93 rfl (by kernel_rfl) ?_
  simp -dsimp
  refine acallsW_of (pappseq_ok t km b ht H hb hk) ?_
  rintro e _ ⟨ns, hp, rfl, rfl⟩
  simp -dsimp
  exact ⟨ns, hp, rfl, rfl⟩
end Go.Proofs
