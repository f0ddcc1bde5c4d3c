/- What is live in code that goes straight on, reckoned (no program in sight). -/
import Derived.Test.YtklgcajfkkoacaaCL2toCW3
import Derived.Test.YtklgcajfkkoacaaCX7toCV5
import Derived.Test.YtklgcajfkkoacaaFS6toCV7
set_option linter.unusedVariables false
set_option linter.unusedSimpArgs false
set_option maxHeartbeats 4000000
set_option maxRecDepth 100000
namespace Go.Proofs
open Go.Mu
def liveC (l : Linear) : Nat → Nat → List Int
  | 0, _ => []
  | f + 1, i => match l.code[i]? with
    | none => if i = l.code.length then riseL l.rets else []
    | some x => riseL (x.raw ++ (nxt l i).flatMap fun k => (liveC l f k.toNat).filter fun v => !decide (v ∈ x.defs))
def straight (l : Linear) : Bool := (List.range l.code.length).all fun i => (nxt l i).all fun k => decide ((i : Int) < k)
theorem liveC_rise (l : Linear) (f i : Nat) : Rising (liveC l f i) := by
  cases f with
  | zero => exact List.Pairwise.nil
  | succ f =>
    rw [liveC]
    split
    · split
      · exact riseL_rise _
      · exact List.Pairwise.nil
    · exact riseL_rise _
theorem liveAt_iff {l : Linear} {i : Nat} {x : Line} (hx : l.code[i]? = some x) {v : Int} : LiveAt l i v ↔ v ∈ x.raw ∨ (v ∉ x.defs ∧ ∃ k : Nat, (k : Int) ∈ nxt l i ∧ LiveAt l k v) := by
  constructor
  · intro h
    cases h with
    | told h => rw [List.getElem?_eq_none (Nat.le_refl _)] at hx; cases hx
    | read hx' h => rw [hx, Option.some.injEq] at hx'; subst hx'; exact .inl h
    | way hx' hd hk h => rw [hx, Option.some.injEq] at hx'; subst hx'; exact .inr ⟨hd, _, hk, h⟩
  · rintro (h | ⟨h, k, hk, hl⟩)
    · exact .read hx h
    · exact .way hx h hk hl
theorem liveC_iff {l : Linear} (ho : LinOk l) (hst : straight l = true) : ∀ (f i : Nat), l.code.length < f + i → ∀ v, v ∈ liveC l f i ↔ LiveAt l i v
  | 0, i, hf, v => by
    rw [liveC]
    constructor
    · intro h; simp at h
    · intro h; have := (live_in ho h).2; omega
  | f + 1, i, hf, v => by
    rw [liveC]
    split
    · rename_i hx
      have hi := List.getElem?_eq_none_iff.1 hx
      by_cases e : i = l.code.length
      · rw [if_pos e, riseL_mem, e]
        constructor
        · exact .told
        · intro h
          cases h with
          | told h => exact h
          | read hx _ => have := (List.getElem?_eq_some_iff.1 hx).1; omega
          | way hx _ _ _ => have := (List.getElem?_eq_some_iff.1 hx).1; omega
      · rw [if_neg e]
        constructor
        · intro h; simp at h
        · intro h; have := (live_in ho h).2; omega
    · rename_i x hx
      rw [riseL_mem, List.mem_append, List.mem_flatMap, liveAt_iff hx]
      have hil := (List.getElem?_eq_some_iff.1 hx).1
      have hgt : ∀ k ∈ nxt l i, (i : Int) < k := fun k hk => by
        have := List.all_eq_true.1 (List.all_eq_true.1 hst i (List.mem_range.2 hil)) k hk
        exact of_decide_eq_true this
      constructor
      · rintro (h | ⟨k, hk, h⟩)
        · exact .inl h
        · rw [List.mem_filter] at h
          have hk2 := hgt k hk
          refine .inr ⟨by simpa using h.2, k.toNat, by rw [Int.toNat_of_nonneg (by omega)]; exact hk, (liveC_iff ho hst f k.toNat (by omega) v).1 h.1⟩
      · rintro (h | ⟨hd, k, hk, h⟩)
        · exact .inl h
        · have hk2 := hgt _ hk
          refine .inr ⟨(k : Int), hk, ?_⟩
          rw [List.mem_filter, Int.toNat_natCast]
          exact ⟨(liveC_iff ho hst f k (by omega) v).2 h, by simpa using hd⟩
theorem liveC_eq {l : Linear} (hok : l.ok = true) (hst : straight l = true) (i : Nat) : liveL l i = liveC l (l.code.length + 1) i := by
  have ho := ((ok_iff l).1 hok).1
  refine sorted_ext (liveL_rise _ _) (liveC_rise _ _ _) fun v => ?_
  rw [live_mem ho]
  by_cases hi : i ≤ l.code.length
  · exact (liveC_iff ho hst _ i (by omega) v).symm
  · constructor
    · intro h; have := (live_in ho h).2; omega
    · intro h
      rw [liveC, List.getElem?_eq_none (by omega)] at h
      simp only at h
      rw [if_neg (by omega)] at h
      simp at h
end Go.Proofs
namespace Go.Proofs
open Go.Mu
def mvL (d a : Int) : Line := ⟨1, ⟨2, 0, d, a, 0, 0, 0, false⟩, 0, 0⟩
def wdL (d n : Int) : Line := ⟨1, ⟨1, 0, d, 0, 0, 0, n, false⟩, 0, 0⟩
def enL : Line := ⟨5, zeroIns, 0, 0⟩
def lA : Linear := ⟨2, [0], [1, 0], 0, [mvL 1 0, wdL 0 5, enL]⟩
def lB : Linear := ⟨2, [0], [1], 0, [mvL 1 0, enL]⟩
theorem kA1 : chkM lA [0, 1] = (0, 0) := by
  have h : ∀ i, liveL lA i = liveC lA 4 i := liveC_eq (by decide +kernel) (by decide +kernel)
  unfold chkM begOk rightOk behL
  simp only [h]
  decide +kernel
theorem kA2 : chkM lA [0, 0] = (1, 16) := by
  have h : ∀ i, liveL lA i = liveC lA 4 i := liveC_eq (by decide +kernel) (by decide +kernel)
  unfold chkM begOk rightOk behL
  simp only [h]
  decide +kernel
theorem kA3 : chkM lA [0] = (-1, 16) := by
  have h : ∀ i, liveL lA i = liveC lA 4 i := liveC_eq (by decide +kernel) (by decide +kernel)
  unfold chkM begOk rightOk behL
  simp only [h]
  decide +kernel
theorem kB1 : chkM lB [0, 0] = (0, 0) := by
  have h : ∀ i, liveL lB i = liveC lB 3 i := liveC_eq (by decide +kernel) (by decide +kernel)
  unfold chkM begOk rightOk behL
  simp only [h]
  decide +kernel
theorem mv_ok (d a : Int) (H : List Blk) : ACalls Try.prog 37 [I d, I a] H (fun e H' => e = .ret (.agg (mvL d a).cells) ∧ H' = H) := by
  refine acalls_tidy (acalls_of_vc (hn := fun _ => false) (od := fun _ => none) Try.func37 rfl (by kernel_rfl) ?_)
  simp -dsimp [mvL]
  try exact tidy_same rfl ⟨rfl, rfl⟩
theorem wd_ok (d n : Int) (H : List Blk) : ACalls Try.prog 17 [I d, U n] H (fun e H' => e = .ret (.agg (wdL d n).cells) ∧ H' = H) := by
  refine acalls_tidy (acalls_of_vc (hn := fun _ => false) (od := fun _ => none) Try.func17 rfl (by kernel_rfl) ?_)
  simp -dsimp [wdL]
  try exact tidy_same rfl ⟨rfl, rfl⟩
theorem en_ok (H : List Blk) : ACalls Try.prog 16 [] H (fun e H' => e = .ret (.agg enL.cells) ∧ H' = H) := by
  refine acalls_tidy (acalls_of_vc (hn := fun _ => false) (od := fun _ => none) Try.func16 rfl (by kernel_rfl) ?_)
  simp -dsimp [enL, zeroIns]
  try exact tidy_same rfl ⟨rfl, rfl⟩
theorem num18_ok (n : Int) (H : List Blk) : ACalls Try.prog 15 [I n] H (fun e H' => e = .ret (I n) ∧ H' = H) := by
  refine acalls_of_vc (hn := fun _ => false) (od := fun _ => none) Try.func15 rfl (by kernel_rfl) ?_
  simp -dsimp
theorem says_ok (l : Linear) (hs : l.Sm) (line e : Int) (regs : List Int) (hrl : regs.length ≤ 2^36) (H : List Blk) : ACalls Try.prog 19 [.agg l.cells, I line, I e, Int.sl regs] H (fun x H' => x = .ret (Bo (decide (chkM l regs = (line, e)))) ∧ H' = H) := by
  refine acalls_tidy (acalls_of_vc (hn := fun _ => false) (od := fun _ => none) Try.func19 rfl (by kernel_rfl) ?_)
  have cc := fun H => ccheck_ok l hs regs hrl H
  simp only [Linear.cells] at cc
  obtain ⟨a, b, hab⟩ : ∃ a b, chkM l regs = (a, b) := ⟨_, _, rfl⟩
  rw [hab] at cc
  have E : decide (chkM l regs = (line, e)) = (a == line && b == e) := by rw [hab, Bool.eq_iff_iff]; simp
  rw [E]
  clear E hab
  simp -dsimp
  repeat' ((with_reducible first | refine And.intro ?_ ?_ | refine guardVW_introTD (fun _ => ?_) (fun _ => ?_) | refine guardVW_introFD (fun _ => ?_) (fun _ => ?_) | refine condVW_introD (fun _ => ?_) (fun _ => ?_) | refine guardVW_introTE (fun _ => ?_) (fun _ _ _ => ?_) | refine guardVW_introFE (fun _ => ?_) (fun _ _ _ => ?_) | refine condVW_introE (fun _ => ?_) (fun _ _ _ => ?_) | refine guardVW_introTNE (fun _ _ _ => ?_) (fun _ => ?_) | refine guardVW_introFNE (fun _ _ _ => ?_) (fun _ => ?_) | refine condVW_introNE (fun _ _ _ => ?_) (fun _ => ?_) | refine guardVW_introTB (fun _ => ?_) (fun _ => ?_) | refine guardVW_introFB (fun _ => ?_) (fun _ => ?_) | refine condVW_introB (fun _ => ?_) (fun _ => ?_) | refine guardVW_introT (fun _ => ?_) (fun _ => ?_) | refine guardVW_introF (fun _ => ?_) (fun _ => ?_) | refine condVW_intro (fun _ => ?_) (fun _ => ?_) | refine acallsW_det (cc _) ?_ | refine callDW_intro (cc _) ?_ | refine acallsW_det (num18_ok _ _) ?_ | refine callDW_intro (num18_ok _ _) ?_) <;> simp -dsimp [*])
  all_goals exact tidy_same rfl ⟨by simp [*], rfl⟩
theorem sm_of {l : Linear} (h : l.params.length + l.rets.length + l.code.length ≤ 2^36) : l.Sm := ⟨by omega, by omega, by omega⟩
theorem known18_ok (H : List Blk) : ACalls Try.prog 12 [] H (fun x H' => x = .ret (Bo true) ∧ H' = H) := by
  refine acalls_tidy (acalls_of_vc (hn := fun _ => false) (od := fun _ => none) Try.func12 rfl (by kernel_rfl) ?_)
  have m1 := fun H => mv_ok 1 0 H
  have w1 := fun H => wd_ok 0 5 H
  have s1 := fun H => says_ok lA (sm_of (by decide)) 0 0 [0, 1] (by decide) H
  have s2 := fun H => says_ok lA (sm_of (by decide)) 1 16 [0, 0] (by decide) H
  have s3 := fun H => says_ok lA (sm_of (by decide)) (-1) 16 [0] (by decide) H
  have s4 := fun H => says_ok lB (sm_of (by decide)) 0 0 [0, 0] (by decide) H
  simp only [kA1, kA2, kA3, kB1, decide_true] at s1 s2 s3 s4
  simp only [lA, lB, Linear.cells, Int.sl, Line.sl, List.map_cons, List.map_nil] at s1 s2 s3 s4
  obtain ⟨ma, hma⟩ : ∃ ma, ma = mvL 1 0 := ⟨_, rfl⟩
  obtain ⟨wa, hwa⟩ : ∃ wa, wa = wdL 0 5 := ⟨_, rfl⟩
  obtain ⟨ea, hea⟩ : ∃ ea, ea = enL := ⟨_, rfl⟩
  have e1 := fun H => en_ok H
  rw [← hma, ← hwa, ← hea] at s1 s2 s3
  rw [← hma, ← hea] at s4
  rw [← hma] at m1
  rw [← hwa] at w1
  rw [← hea] at e1
  clear hma hwa hea
  simp only [Line.cells] at m1 w1 e1 s1 s2 s3 s4
  simp -dsimp
  repeat' ((with_reducible first | refine And.intro ?_ ?_ | refine guardVW_introTD (fun _ => ?_) (fun _ => ?_) | refine guardVW_introFD (fun _ => ?_) (fun _ => ?_) | refine condVW_introD (fun _ => ?_) (fun _ => ?_) | refine guardVW_introTE (fun _ => ?_) (fun _ _ _ => ?_) | refine guardVW_introFE (fun _ => ?_) (fun _ _ _ => ?_) | refine condVW_introE (fun _ => ?_) (fun _ _ _ => ?_) | refine guardVW_introTNE (fun _ _ _ => ?_) (fun _ => ?_) | refine guardVW_introFNE (fun _ _ _ => ?_) (fun _ => ?_) | refine condVW_introNE (fun _ _ _ => ?_) (fun _ => ?_) | refine guardVW_introTB (fun _ => ?_) (fun _ => ?_) | refine guardVW_introFB (fun _ => ?_) (fun _ => ?_) | refine condVW_introB (fun _ => ?_) (fun _ => ?_) | refine guardVW_introT (fun _ => ?_) (fun _ => ?_) | refine guardVW_introF (fun _ => ?_) (fun _ => ?_) | refine condVW_intro (fun _ => ?_) (fun _ => ?_) | refine acallsW_det (m1 _) ?_ | refine callDW_intro (m1 _) ?_ | refine acallsW_det (w1 _) ?_ | refine callDW_intro (w1 _) ?_ | refine acallsW_det (e1 _) ?_ | refine callDW_intro (e1 _) ?_ | refine acallsW_det (s1 _) ?_ | refine callDW_intro (s1 _) ?_ | refine acallsW_det (s2 _) ?_ | refine callDW_intro (s2 _) ?_ | refine acallsW_det (s3 _) ?_ | refine callDW_intro (s3 _) ?_ | refine acallsW_det (s4 _) ?_ | refine callDW_intro (s4 _) ?_) <;> simp -dsimp [*])
  all_goals exact tidy_same rfl ⟨rfl, rfl⟩
def much18 (l : Linear) (regs : List Int) : Bool := decide (60 < l.vars) || decide (120 < l.code.length) || decide (60 < l.params.length) || decide (60 < l.rets.length) || decide (600 < regs.length)
theorem much18_ok (l : Linear) (regs : List Int) (hs : l.Sm) (hr : regs.length ≤ 2^40) (H : List Blk) : ACalls Try.prog 11 [.agg l.cells, Int.sl regs] H (fun e H' => e = .ret (Bo (much18 l regs)) ∧ H' = H) := by
  refine acalls_tidy (acalls_of_vc (hn := fun _ => false) (od := fun _ => none) Try.func11 rfl (by kernel_rfl) ?_)
  simp -dsimp
  repeat' ((with_reducible first | refine And.intro ?_ ?_ | refine guardVW_introTD (fun _ => ?_) (fun _ => ?_) | refine guardVW_introFD (fun _ => ?_) (fun _ => ?_) | refine condVW_introD (fun _ => ?_) (fun _ => ?_) | refine guardVW_introTE (fun _ => ?_) (fun _ _ _ => ?_) | refine guardVW_introFE (fun _ => ?_) (fun _ _ _ => ?_) | refine condVW_introE (fun _ => ?_) (fun _ _ _ => ?_) | refine guardVW_introTNE (fun _ _ _ => ?_) (fun _ => ?_) | refine guardVW_introFNE (fun _ _ _ => ?_) (fun _ => ?_) | refine condVW_introNE (fun _ _ _ => ?_) (fun _ => ?_) | refine guardVW_introTB (fun _ => ?_) (fun _ => ?_) | refine guardVW_introFB (fun _ => ?_) (fun _ => ?_) | refine condVW_introB (fun _ => ?_) (fun _ => ?_) | refine guardVW_introT (fun _ => ?_) (fun _ => ?_) | refine guardVW_introF (fun _ => ?_) (fun _ => ?_) | refine condVW_intro (fun _ => ?_) (fun _ => ?_)) <;> simp -dsimp [*])
  all_goals refine tidy_same rfl ⟨congrArg (fun b => AE.ret (Bo b)) ?_, rfl⟩
  all_goals (rw [Bool.eq_iff_iff]; simp [much18]; omega)
end Go.Proofs
namespace Go.Proofs
open Go.Mu
theorem lsame_ok (l : Linear) (hp : l.params.length ≤ 2^40) (hr : l.rets.length ≤ 2^40) (hc : l.code.length ≤ 2^40) (H : List Blk) : ACalls Try.prog 21 [.agg l.cells, .agg l.cells] H (fun e H' => e = .ret (Bo true) ∧ H' = H) := by
  refine acalls_tidy (acalls_of_vc (hn := fun _ => false) (od := fun _ => none) Try.func21 rfl (by kernel_rfl) ?_)
  have s1 := fun H => sameInts_ok l.params l.params H hp
  have s2 := fun H => sameInts_ok l.rets l.rets H hr
  simp only [decide_true] at s1 s2
  simp -dsimp
  refine acallsW_det (s1 _) ?_
  simp -dsimp
  refine acallsW_det (s2 _) ?_
  simp -dsimp
  obtain ⟨B, hB⟩ : ∃ B, B = H ++ [.box 25 [I l.vars, Int.sl l.params, Int.sl l.rets, I l.frame, Line.sl l.code], .box 25 [I l.vars, Int.sl l.params, Int.sl l.rets, I l.frame, Line.sl l.code]] := ⟨_, rfl⟩
  have h2 : B[H.length]? = some (.box 25 [I l.vars, Int.sl l.params, Int.sl l.rets, I l.frame, Line.sl l.code]) := by rw [hB]; simp
  have h3 : B[H.length + 1]? = some (.box 25 [I l.vars, Int.sl l.params, Int.sl l.rets, I l.frame, Line.sl l.code]) := by rw [hB]; simp
  rw [← hB]
  replace hB := Hid.mk hB
  refine loop_rule (hn := fun _ => false) (od := fun _ => none) (fun (i : Nat) f M => B = M ∧ f 2 = .bp H.length 0 ∧ f 3 = .bp (H.length + 1) 0 ∧ f 5 = I i ∧ i ≤ l.code.length) (fun i => l.code.length - i) (by kernel_rfl) 0 (by refine ⟨by simp, by simp, by simp, by simp, by omega⟩) ?_
  rintro i f _ ⟨rfl, f2, f3, f5, hi⟩
  simp -dsimp [f2, f3, f5, h2, h3]
  refine condVW_introD (fun hlt => ?_) (fun hlt => ?_)
  · have hlt' : i < l.code.length := by omega
    have hx := List.getElem?_eq_getElem hlt'
    obtain ⟨x, hxe⟩ : ∃ x, x = l.code[i] := ⟨_, rfl⟩
    rw [← hxe] at hx
    clear hxe
    obtain ⟨kind, ⟨ik, op, d, a, b, c, word, stack⟩, var, label⟩ := x
    simp -dsimp [f2, f3, f5, h2, h3, hx]
    exact ⟨i + 1, by omega, wrapS (by omega), by omega⟩
  · rw [hB.out]
    simp -dsimp
    exact tidy_same rfl ⟨rfl, rfl⟩
theorem renL_sm {l : Linear} (hs : l.Sm) (regs : List Int) : (renL l regs).Sm := ⟨by unfold renL; simp; exact hs.params, by unfold renL; simp; exact hs.rets, by unfold renL; simp; exact hs.code⟩
theorem lsame_sm (l : Linear) (hs : l.Sm) (H : List Blk) : ACalls Try.prog 21 [.agg l.cells, .agg l.cells] H (fun e H' => e = .ret (Bo true) ∧ H' = H) :=
  lsame_ok l (by have := hs.params; omega) (by have := hs.rets; omega) (by have := hs.code; omega) H
theorem useL_len {l : Linear} (ho : LinOk l) (regs : List Int) : (useL l regs).length ≤ 16384 := by
  rw [← useL_cnt]
  have := riseL_len ((cntL l).map (rg regs))
  rw [List.length_map] at this
  have := cntL_len ho
  omega
theorem renames_law (l : Linear) (regs : List Int) (hs : l.Sm) (hr : regs.length ≤ 2^36) (H : List Blk) : ACalls Try.prog 5 [.agg l.cells, Int.sl regs] H (fun e H' => e = .ret (Bo true) ∧ H' = H) := by
  refine acalls_tidy (acalls_of_vc (hn := fun _ => false) (od := fun _ => none) Try.func5 rfl (by kernel_rfl) ?_)
  have mu := fun H => much18_ok l regs hs (by omega) H
  have kn := known18_ok
  have c1 := fun H => rename_ok l hs regs hr H
  have c2 := fun H => used_ok l hs regs hr H
  have c3 := fun H => rcheck_ok l hs regs hr H
  have c4 := fun H h => rrename_ok l hs regs h H
  have c5 := fun H h => rused_ok l hs regs h H
  have c6 := fun H => lsame_sm (renL l regs) (renL_sm hs regs) H
  have c7 := fun H => lsame_sm ⟨0, [], [], 0, []⟩ ⟨by simp, by simp, by simp⟩ H
  have c9 := fun H => acalls_weak (args := [.agg [I 0, Int.sl [], Int.sl [], I 0, Line.sl []], .agg [I 0, nilS, nilS, I 0, nilS]]) (.cons (.refl _) (.cons (.aggL (.cons (.refl _) (.cons (.nil 1) (.cons (.nil 1) (.cons (.refl _) (.cons (.nil 11) .nil)))))) .nil)) (c7 H)
  have hw0 : (IntKind.i64.wrap 0 == 0) = true := by decide +kernel
  have c8 := fun H (h : (chkM l regs).2 = 0) => sameInts_ok (useL l regs) (useL l regs) H (by have := useL_len ((ok_iff l).1 (chk0 h).1).1 regs; omega)
  unfold renE at c1
  unfold usedE at c2
  simp only [Linear.cells] at mu c1 c2 c3 c4 c5 c6 c7
  obtain ⟨a, ha⟩ : ∃ a, a = (chkM l regs).1 := ⟨_, rfl⟩
  obtain ⟨b, hb⟩ : ∃ b, b = (chkM l regs).2 := ⟨_, rfl⟩
  simp only [← ha, ← hb] at c1 c2 c3 c4 c5 c8
  clear ha hb
  obtain ⟨M, hM⟩ : ∃ M, M = much18 l regs := ⟨_, rfl⟩
  rw [← hM] at mu
  clear hM
  obtain ⟨R, hR⟩ : ∃ R, R = renL l regs := ⟨_, rfl⟩
  rw [← hR] at c1 c4 c6
  clear hR
  obtain ⟨rv, rp, rr, rf, rc⟩ := R
  simp only at c1 c4 c6
  obtain ⟨us, hus⟩ : ∃ us, us = useL l regs := ⟨_, rfl⟩
  rw [← hus] at c2 c5 c8
  clear hus
  simp only [decide_true] at c8
  simp -dsimp
  refine acallsW_det (mu _) ?_
  cases M
  · by_cases hb : b = 0
    · subst hb
      simp only [if_true] at c1 c2
      have c4 := fun H => c4 H rfl
      have c5 := fun H => c5 H rfl
      have c8 := fun H => c8 H rfl
      simp -dsimp
      refine acallsW_det (c1 _) ?_
      simp -dsimp
      refine acallsW_det (c2 _) ?_
      simp -dsimp
      refine acallsW_det (c3 _) ?_
      simp -dsimp
      refine callDW_intro (c4 _) ?_
      simp -dsimp
      refine callDW_intro (c6 _) ?_
      simp -dsimp
      refine callDW_intro (c5 _) ?_
      simp -dsimp
      refine callDW_intro (c8 _) ?_
      simp -dsimp
      refine callDW_intro (num18_ok _ _) ?_
      simp -dsimp
      refine callDW_intro (num18_ok _ _) ?_
      simp -dsimp [hw0]
      refine callDW_intro (kn _) ?_
      simp -dsimp
      exact tidy_same rfl ⟨rfl, rfl⟩
    · have hbb : (b != 0) = true := by simpa using hb
      rw [if_neg hb] at c1 c2
      simp -dsimp
      refine acallsW_det (c1 _) ?_
      simp -dsimp
      refine acallsW_det (c2 _) ?_
      simp -dsimp
      refine acallsW_det (c3 _) ?_
      simp -dsimp [hbb]
      refine acallsW_det (c9 _) ?_
      simp -dsimp
      refine acallsW_det (num18_ok _ _) ?_
      simp -dsimp
      refine acallsW_det (num18_ok _ _) ?_
      simp -dsimp
      refine acallsW_det (kn _) ?_
      simp -dsimp
      exact tidy_same rfl ⟨rfl, rfl⟩
  · simp -dsimp
    refine acallsW_det (kn _) ?_
    simp -dsimp
    exact tidy_same rfl ⟨rfl, rfl⟩
end Go.Proofs
