/- What is live in code that goes straight on, reckoned (no program in sight). -/
import Derived.Test.YtklgcajfkkoacaaCL2toCW3
import Derived.Test.YtklgcajfkkoacaaFwUtoCV5
import Derived.Test.YtklgcajfkkoacaaFS6toCV7
import Derived.Test.YtklgcajfkkoacaaCW4toCW5
set_option linter.unusedVariables false
set_option linter.unusedSimpArgs false
set_option maxHeartbeats 4000000
set_option maxRecDepth 100000
namespace Go.Proofs
open Go.Mu
def liveC (l : Linear) : Nat → Nat → List Int
  | 0, _ => []
  | f + 1, i => match l.code[i]? with
    | none => if i = l.code.length then riseL l.rets else []
    | some x => riseL (x.raw ++ (nxt l i).flatMap fun k => (liveC l f k.toNat).filter fun v => !decide (v ∈ x.defs))
def straight (l : Linear) : Bool := (List.range l.code.length).all fun i => (nxt l i).all fun k => decide ((i : Int) < k)
theorem liveC_rise (l : Linear) (f i : Nat) : Rising (liveC l f i) := by
  cases f with
  | zero => exact List.Pairwise.nil
  | succ f =>
    rw [liveC]
    split
    · split
      · exact riseL_rise _
      · exact List.Pairwise.nil
    · exact riseL_rise _
theorem liveAt_iff {l : Linear} {i : Nat} {x : Line} (hx : l.code[i]? = some x) {v : Int} : LiveAt l i v ↔ v ∈ x.raw ∨ (v ∉ x.defs ∧ ∃ k : Nat, (k : Int) ∈ nxt l i ∧ LiveAt l k v) := by
  constructor
  · intro h
    cases h with
    | told h => rw [List.getElem?_eq_none (Nat.le_refl _)] at hx; cases hx
    | read hx' h => rw [hx, Option.some.injEq] at hx'; subst hx'; exact .inl h
    | way hx' hd hk h => rw [hx, Option.some.injEq] at hx'; subst hx'; exact .inr ⟨hd, _, hk, h⟩
  · rintro (h | ⟨h, k, hk, hl⟩)
    · exact .read hx h
    · exact .way hx h hk hl
theorem liveC_iff {l : Linear} (ho : LinOk l) (hst : straight l = true) : ∀ (f i : Nat), l.code.length < f + i → ∀ v, v ∈ liveC l f i ↔ LiveAt l i v
  | 0, i, hf, v => by
    rw [liveC]
    constructor
    · intro h; simp at h
    · intro h; have := (live_in ho h).2; omega
  | f + 1, i, hf, v => by
    rw [liveC]
    split
    · rename_i hx
      have hi := List.getElem?_eq_none_iff.1 hx
      by_cases e : i = l.code.length
      · rw [if_pos e, riseL_mem, e]
        constructor
        · exact .told
        · intro h
          cases h with
          | told h => exact h
          | read hx _ => have := (List.getElem?_eq_some_iff.1 hx).1; omega
          | way hx _ _ _ => have := (List.getElem?_eq_some_iff.1 hx).1; omega
      · rw [if_neg e]
        constructor
        · intro h; simp at h
        · intro h; have := (live_in ho h).2; omega
    · rename_i x hx
      rw [riseL_mem, List.mem_append, List.mem_flatMap, liveAt_iff hx]
      have hil := (List.getElem?_eq_some_iff.1 hx).1
      have hgt : ∀ k ∈ nxt l i, (i : Int) < k := fun k hk => by
        have := List.all_eq_true.1 (List.all_eq_true.1 hst i (List.mem_range.2 hil)) k hk
        exact of_decide_eq_true this
      constructor
      · rintro (h | ⟨k, hk, h⟩)
        · exact .inl h
        · rw [List.mem_filter] at h
          have hk2 := hgt k hk
          refine .inr ⟨by simpa using h.2, k.toNat, by rw [Int.toNat_of_nonneg (by omega)]; exact hk, (liveC_iff ho hst f k.toNat (by omega) v).1 h.1⟩
      · rintro (h | ⟨hd, k, hk, h⟩)
        · exact .inl h
        · have hk2 := hgt _ hk
          refine .inr ⟨(k : Int), hk, ?_⟩
          rw [List.mem_filter, Int.toNat_natCast]
          exact ⟨(liveC_iff ho hst f k (by omega) v).2 h, by simpa using hd⟩
theorem liveC_eq {l : Linear} (hok : l.ok = true) (hst : straight l = true) (i : Nat) : liveL l i = liveC l (l.code.length + 1) i := by
  have ho := ((ok_iff l).1 hok).1
  refine sorted_ext (liveL_rise _ _) (liveC_rise _ _ _) fun v => ?_
  rw [live_mem ho]
  by_cases hi : i ≤ l.code.length
  · exact (liveC_iff ho hst _ i (by omega) v).symm
  · constructor
    · intro h; have := (live_in ho h).2; omega
    · intro h
      rw [liveC, List.getElem?_eq_none (by omega)] at h
      simp only at h
      rw [if_neg (by omega)] at h
      simp at h
end Go.Proofs
namespace Go.Proofs
open Go.Mu
def mvL (d a : Int) : Line := ⟨1, ⟨2, 0, d, a, 0, 0, 0, false⟩, 0, 0⟩
def wdL (d n : Int) : Line := ⟨1, ⟨1, 0, d, 0, 0, 0, n, false⟩, 0, 0⟩
def enL : Line := ⟨5, zeroIns, 0, 0⟩
def lA : Linear := ⟨2, [0], [1, 0], 0, [mvL 1 0, wdL 0 5, enL]⟩
def lB : Linear := ⟨2, [0], [1], 0, [mvL 1 0, enL]⟩
theorem kA1 : chkM lA [0, 1] = (0, 0) := by
  have h : ∀ i, liveL lA i = liveC lA 4 i := liveC_eq (by decide +kernel) (by decide +kernel)
  unfold chkM begOk rightOk behL
  simp only [h]
  decide +kernel
theorem kA2 : chkM lA [0, 0] = (1, 16) := by
  have h : ∀ i, liveL lA i = liveC lA 4 i := liveC_eq (by decide +kernel) (by decide +kernel)
  unfold chkM begOk rightOk behL
  simp only [h]
  decide +kernel
theorem kA3 : chkM lA [0] = (-1, 16) := by
  have h : ∀ i, liveL lA i = liveC lA 4 i := liveC_eq (by decide +kernel) (by decide +kernel)
  unfold chkM begOk rightOk behL
  simp only [h]
  decide +kernel
theorem kB1 : chkM lB [0, 0] = (0, 0) := by
  have h : ∀ i, liveL lB i = liveC lB 3 i := liveC_eq (by decide +kernel) (by decide +kernel)
  unfold chkM begOk rightOk behL
  simp only [h]
  decide +kernel
theorem mv_ok (d a : Int) (H : List Blk) : ACalls Try.prog 37 [I d, I a] H (fun e H' => e = .ret (.agg (mvL d a).cells) ∧ H' = H) := by
  refine acalls_tidy (acalls_of_vc (hn := fun _ => false) (od := fun _ => none) Try.func37 rfl (by kernel_rfl) ?_)
  simp -dsimp [mvL]
  try exact tidy_same rfl ⟨rfl, rfl⟩
theorem wd_ok (d n : Int) (H : List Blk) : ACalls Try.prog 17 [I d, U n] H (fun e H' => e = .ret (.agg (wdL d n).cells) ∧ H' = H) := by
  refine acalls_tidy (acalls_of_vc (hn := fun _ => false) (od := fun _ => none) Try.func17 rfl (by kernel_rfl) ?_)
  simp -dsimp [wdL]
  try exact tidy_same rfl ⟨rfl, rfl⟩
theorem en_ok (H : List Blk) : ACalls Try.prog 16 [] H (fun e H' => e = .ret (.agg enL.cells) ∧ H' = H) := by
  refine acalls_tidy (acalls_of_vc (hn := fun _ => false) (od := fun _ => none) Try.func16 rfl (by kernel_rfl) ?_)
  simp -dsimp [enL, zeroIns]
  try exact tidy_same rfl ⟨rfl, rfl⟩
theorem num18_ok (n : Int) (H : List Blk) : ACalls Try.prog 15 [I n] H (fun e H' => e = .ret (I n) ∧ H' = H) := by
  refine acalls_of_vc (hn := fun _ => false) (od := fun _ => none) Try.func15 rfl (by kernel_rfl) ?_
  simp -dsimp
theorem says_ok (l : Linear) (hs : l.Sm) (line e : Int) (regs : List Int) (hrl : regs.length ≤ 2^36) (H : List Blk) : ACalls Try.prog 19 [.agg l.cells, I line, I e, Int.sl regs] H (fun x H' => x = .ret (Bo (decide (chkM l regs = (line, e)))) ∧ H' = H) := by
  refine acalls_tidy (acalls_of_vc (hn := fun _ => false) (od := fun _ => none) Try.func19 rfl (by kernel_rfl) ?_)
  have cc := fun H => ccheck_ok l hs regs hrl H
  simp only [Linear.cells] at cc
  obtain ⟨a, b, hab⟩ : ∃ a b, chkM l regs = (a, b) := ⟨_, _, rfl⟩
  rw [hab] at cc
  have E : decide (chkM l regs = (line, e)) = (a == line && b == e) := by rw [hab, Bool.eq_iff_iff]; simp
  rw [E]
  clear E hab
  simp -dsimp
  repeat' ((with_reducible first | refine And.intro ?_ ?_ | refine guardVW_introTD (fun _ => ?_) (fun _ => ?_) | refine guardVW_introFD (fun _ => ?_) (fun _ => ?_) | refine condVW_introD (fun _ => ?_) (fun _ => ?_) | refine guardVW_introTE (fun _ => ?_) (fun _ _ _ => ?_) | refine guardVW_introFE (fun _ => ?_) (fun _ _ _ => ?_) | refine condVW_introE (fun _ => ?_) (fun _ _ _ => ?_) | refine guardVW_introTNE (fun _ _ _ => ?_) (fun _ => ?_) | refine guardVW_introFNE (fun _ _ _ => ?_) (fun _ => ?_) | refine condVW_introNE (fun _ _ _ => ?_) (fun _ => ?_) | refine guardVW_introTB (fun _ => ?_) (fun _ => ?_) | refine guardVW_introFB (fun _ => ?_) (fun _ => ?_) | refine condVW_introB (fun _ => ?_) (fun _ => ?_) | refine guardVW_introT (fun _ => ?_) (fun _ => ?_) | refine guardVW_introF (fun _ => ?_) (fun _ => ?_) | refine condVW_intro (fun _ => ?_) (fun _ => ?_) | refine acallsW_det (cc _) ?_ | refine callDW_intro (cc _) ?_ | refine acallsW_det (num18_ok _ _) ?_ | refine callDW_intro (num18_ok _ _) ?_) <;> simp -dsimp [*])
  all_goals exact tidy_same rfl ⟨by simp [*], rfl⟩
theorem sm_of {l : Linear} (h : l.params.length + l.rets.length + l.code.length ≤ 2^36) : l.Sm := ⟨by omega, by omega, by omega⟩
theorem known18_ok (H : List Blk) : ACalls Try.prog 12 [] H (fun x H' => x = .ret (Bo true) ∧ H' = H) := by
  refine acalls_tidy (acalls_of_vc (hn := fun _ => false) (od := fun _ => none) Try.func12 rfl (by kernel_rfl) ?_)
  have m1 := fun H => mv_ok 1 0 H
  have w1 := fun H => wd_ok 0 5 H
  have s1 := fun H => says_ok lA (sm_of (by decide)) 0 0 [0, 1] (by decide) H
  have s2 := fun H => says_ok lA (sm_of (by decide)) 1 16 [0, 0] (by decide) H
  have s3 := fun H => says_ok lA (sm_of (by decide)) (-1) 16 [0] (by decide) H
  have s4 := fun H => says_ok lB (sm_of (by decide)) 0 0 [0, 0] (by decide) H
  simp only [kA1, kA2, kA3, kB1, decide_true] at s1 s2 s3 s4
  simp only [lA, lB, Linear.cells, Int.sl, Line.sl, List.map_cons, List.map_nil] at s1 s2 s3 s4
  obtain ⟨ma, hma⟩ : ∃ ma, ma = mvL 1 0 := ⟨_, rfl⟩
  obtain ⟨wa, hwa⟩ : ∃ wa, wa = wdL 0 5 := ⟨_, rfl⟩
  obtain ⟨ea, hea⟩ : ∃ ea, ea = enL := ⟨_, rfl⟩
  have e1 := fun H => en_ok H
  rw [← hma, ← hwa, ← hea] at s1 s2 s3
  rw [← hma, ← hea] at s4
  rw [← hma] at m1
  rw [← hwa] at w1
  rw [← hea] at e1
  clear hma hwa hea
  simp only [Line.cells] at m1 w1 e1 s1 s2 s3 s4
  simp -dsimp
  repeat' ((with_reducible first | refine And.intro ?_ ?_ | refine guardVW_introTD (fun _ => ?_) (fun _ => ?_) | refine guardVW_introFD (fun _ => ?_) (fun _ => ?_) | refine condVW_introD (fun _ => ?_) (fun _ => ?_) | refine guardVW_introTE (fun _ => ?_) (fun _ _ _ => ?_) | refine guardVW_introFE (fun _ => ?_) (fun _ _ _ => ?_) | refine condVW_introE (fun _ => ?_) (fun _ _ _ => ?_) | refine guardVW_introTNE (fun _ _ _ => ?_) (fun _ => ?_) | refine guardVW_introFNE (fun _ _ _ => ?_) (fun _ => ?_) | refine condVW_introNE (fun _ _ _ => ?_) (fun _ => ?_) | refine guardVW_introTB (fun _ => ?_) (fun _ => ?_) | refine guardVW_introFB (fun _ => ?_) (fun _ => ?_) | refine condVW_introB (fun _ => ?_) (fun _ => ?_) | refine guardVW_introT (fun _ => ?_) (fun _ => ?_) | refine guardVW_introF (fun _ => ?_) (fun _ => ?_) | refine condVW_intro (fun _ => ?_) (fun _ => ?_) | refine acallsW_det (m1 _) ?_ | refine callDW_intro (m1 _) ?_ | refine acallsW_det (w1 _) ?_ | refine callDW_intro (w1 _) ?_ | refine acallsW_det (e1 _) ?_ | refine callDW_intro (e1 _) ?_ | refine acallsW_det (s1 _) ?_ | refine callDW_intro (s1 _) ?_ | refine acallsW_det (s2 _) ?_ | refine callDW_intro (s2 _) ?_ | refine acallsW_det (s3 _) ?_ | refine callDW_intro (s3 _) ?_ | refine acallsW_det (s4 _) ?_ | refine callDW_intro (s4 _) ?_) <;> simp -dsimp [*])
  all_goals exact tidy_same rfl ⟨rfl, rfl⟩
end Go.Proofs
namespace Go.Proofs
open Go.Mu
end Go.Proofs
namespace Go.Proofs
open Go.Mu
end Go.Proofs
namespace Go.Proofs
open Go.Mu
def nN : Linear := ⟨0, [], [], 0, []⟩
def nT : Linear := ⟨3, [0], [2], 0, [enL]⟩
def nD : Linear := ⟨2, [], [0], 0, [wdL 1 7]⟩
def nL : Linear := ⟨1, [], [0], 0, [⟨1, ⟨4, 0, 0, -1, 0, 0, 0, false⟩, 0, 0⟩]⟩
def nB : Linear := ⟨1, [], [1], 0, []⟩
theorem kn1 : chkM nN [] = (0, 0) := by
  have h : ∀ i, liveL nN i = liveC nN 1 i := liveC_eq (by decide +kernel) (by decide +kernel)
  unfold chkM begOk rightOk behL
  simp only [h]
  decide +kernel
theorem kn2 : chkM nT [10, -1, 9] = (0, 0) := by
  have h : ∀ i, liveL nT i = liveC nT 2 i := liveC_eq (by decide +kernel) (by decide +kernel)
  unfold chkM begOk rightOk behL
  simp only [h]
  decide +kernel
theorem kn3 : chkM nT [11, -1, 9] = (-1, 16) := by
  have h : ∀ i, liveL nT i = liveC nT 2 i := liveC_eq (by decide +kernel) (by decide +kernel)
  unfold chkM begOk rightOk behL
  simp only [h]
  decide +kernel
theorem kn4 : chkM nT [1, -1, 1] = (-1, 16) := by
  have h : ∀ i, liveL nT i = liveC nT 2 i := liveC_eq (by decide +kernel) (by decide +kernel)
  unfold chkM begOk rightOk behL
  simp only [h]
  decide +kernel
theorem kn5 : chkM nT [1, -1, -1] = (-1, 16) := by
  have h : ∀ i, liveL nT i = liveC nT 2 i := liveC_eq (by decide +kernel) (by decide +kernel)
  unfold chkM begOk rightOk behL
  simp only [h]
  decide +kernel
theorem kn6 : chkM nT [1, -2, 2] = (-1, 16) := by
  have h : ∀ i, liveL nT i = liveC nT 2 i := liveC_eq (by decide +kernel) (by decide +kernel)
  unfold chkM begOk rightOk behL
  simp only [h]
  decide +kernel
theorem kn7 : chkM nD [0, 1] = (0, 0) := by
  have h : ∀ i, liveL nD i = liveC nD 2 i := liveC_eq (by decide +kernel) (by decide +kernel)
  unfold chkM begOk rightOk behL
  simp only [h]
  decide +kernel
theorem kn8 : chkM nD [0, 0] = (0, 16) := by
  have h : ∀ i, liveL nD i = liveC nD 2 i := liveC_eq (by decide +kernel) (by decide +kernel)
  unfold chkM begOk rightOk behL
  simp only [h]
  decide +kernel
theorem kn9 : chkM nD [0, -1] = (0, 16) := by
  have h : ∀ i, liveL nD i = liveC nD 2 i := liveC_eq (by decide +kernel) (by decide +kernel)
  unfold chkM begOk rightOk behL
  simp only [h]
  decide +kernel
theorem knl : chkM nL [3] = (0, 0) := by
  have h : ∀ i, liveL nL i = liveC nL 2 i := liveC_eq (by decide +kernel) (by decide +kernel)
  unfold chkM begOk rightOk behL
  simp only [h]
  decide +kernel
theorem kB : chkM nB [0] = (0, 2) := by
  unfold chkM
  rw [if_pos (by decide +kernel)]
theorem nil_law (H : List Blk) : ACalls Try.prog 4 [] H (fun x H' => x = .ret (Bo true) ∧ H' = H) := by
  refine acalls_tidy (acalls_of_vc (hn := fun _ => false) (od := fun _ => none) Try.func4 rfl (by kernel_rfl) ?_)
  have kn := known18_ok
  have e1 := fun H => en_ok H
  have w1 := fun H => wd_ok 1 7 H
  have sn1 := fun H => says_ok nN (sm_of (by decide)) 0 0 [] (by decide) H
  have sn2 := fun H => says_ok nT (sm_of (by decide)) 0 0 [10, -1, 9] (by decide) H
  have sn3 := fun H => says_ok nT (sm_of (by decide)) (-1) 16 [11, -1, 9] (by decide) H
  have sn4 := fun H => says_ok nT (sm_of (by decide)) (-1) 16 [1, -1, 1] (by decide) H
  have sn5 := fun H => says_ok nT (sm_of (by decide)) (-1) 16 [1, -1, -1] (by decide) H
  have sn6 := fun H => says_ok nT (sm_of (by decide)) (-1) 16 [1, -2, 2] (by decide) H
  have sn7 := fun H => says_ok nD (sm_of (by decide)) 0 0 [0, 1] (by decide) H
  have sn8 := fun H => says_ok nD (sm_of (by decide)) 0 16 [0, 0] (by decide) H
  have sn9 := fun H => says_ok nD (sm_of (by decide)) 0 16 [0, -1] (by decide) H
  have sB := fun H => says_ok nB (sm_of (by decide)) 0 2 [0] (by decide) H
  simp only [kn1, kn2, kn3, kn4, kn5, kn6, kn7, kn8, kn9, kB, decide_true] at sn1 sn2 sn3 sn4 sn5 sn6 sn7 sn8 sn9 sB
  have r1 := fun H => rename_ok nL (sm_of (by decide)) [3] (by decide) H
  have r2 := fun H => rename_ok nN (sm_of (by decide)) [] (by decide) H
  have er1 : renE nL [3] = .ret (.tup [.agg (Linear.mk 11 [] [3] 0 [⟨1, ⟨4, 0, 3, -1, 0, 0, 0, false⟩, 0, 0⟩]).cells, I 0]) := by unfold renE; rw [knl]; rfl
  have er2 : renE nN [] = .ret (.tup [.agg (Linear.mk 11 [] [] 0 []).cells, I 0]) := by unfold renE; rw [kn1]; rfl
  simp only [er1] at r1
  simp only [er2] at r2
  clear er1 er2
  have sn1 := fun H => acalls_weak (args := [.agg [I 0, nilS, nilS, I 0, nilS], I 0, I 0, nilS]) (.cons (.aggL (.cons (.refl _) (.cons (.nil 1) (.cons (.nil 1) (.cons (.refl _) (.cons (.nil 11) .nil)))))) (.cons (.refl _) (.cons (.refl _) (.cons (.nil 1) .nil)))) (sn1 H)
  have sB := fun H => acalls_weak (args := [.agg [I 1, nilS, Int.sl [1], I 0, nilS], I 0, I 2, Int.sl [0]]) (.cons (.aggL (.cons (.refl _) (.cons (.nil 1) (.cons (.refl _) (.cons (.refl _) (.cons (.nil 11) .nil)))))) (.refl _)) (sB H)
  have sn7 := fun H => acalls_weak (args := [.agg [I 2, nilS, Int.sl [0], I 0, Line.sl [wdL 1 7]], I 0, I 0, Int.sl [0, 1]]) (.cons (.aggL (.cons (.refl _) (.cons (.nil 1) (.refl _)))) (.refl _)) (sn7 H)
  have sn8 := fun H => acalls_weak (args := [.agg [I 2, nilS, Int.sl [0], I 0, Line.sl [wdL 1 7]], I 0, I 16, Int.sl [0, 0]]) (.cons (.aggL (.cons (.refl _) (.cons (.nil 1) (.refl _)))) (.refl _)) (sn8 H)
  have sn9 := fun H => acalls_weak (args := [.agg [I 2, nilS, Int.sl [0], I 0, Line.sl [wdL 1 7]], I 0, I 16, Int.sl [0, -1]]) (.cons (.aggL (.cons (.refl _) (.cons (.nil 1) (.refl _)))) (.refl _)) (sn9 H)
  have r1 := fun H => acalls_weak (args := [.agg [I 1, nilS, Int.sl [0], I 0, Line.sl [⟨1, ⟨4, 0, 0, -1, 0, 0, 0, false⟩, 0, 0⟩]], Int.sl [3]]) (.cons (.aggL (.cons (.refl _) (.cons (.nil 1) (.refl _)))) (.refl _)) (r1 H)
  have r2 := fun H => acalls_weak (args := [.agg [I 0, nilS, nilS, I 0, nilS], nilS]) (.cons (.aggL (.cons (.refl _) (.cons (.nil 1) (.cons (.nil 1) (.cons (.refl _) (.cons (.nil 11) .nil)))))) (.cons (.nil 1) .nil)) (r2 H)
  obtain ⟨wa, hwa⟩ : ∃ wa, wa = wdL 1 7 := ⟨_, rfl⟩
  obtain ⟨ea, hea⟩ : ∃ ea, ea = enL := ⟨_, rfl⟩
  unfold nT at sn2 sn3 sn4 sn5 sn6
  rw [← hea] at sn2 sn3 sn4 sn5 sn6 e1
  rw [← hwa] at sn7 sn8 sn9 w1
  clear hwa hea
  have hw0 : (IntKind.i64.wrap 0 == 0) = true := by decide +kernel
  simp only [Line.cells, Linear.cells, Int.sl, Line.sl, List.map_cons, List.map_nil] at sn1 sn2 sn3 sn4 sn5 sn6 sn7 sn8 sn9 sB r1 r2 e1 w1
  simp -dsimp
  repeat' ((with_reducible first | refine acallsW_det (kn _) ?_ | refine acallsW_det (e1 _) ?_ | refine acallsW_det (w1 _) ?_ | refine acallsW_det (r1 _) ?_ | refine acallsW_det (r2 _) ?_ | refine acallsW_det (sn1 _) ?_ | refine acallsW_det (sn2 _) ?_ | refine acallsW_det (sn3 _) ?_ | refine acallsW_det (sn4 _) ?_ | refine acallsW_det (sn5 _) ?_ | refine acallsW_det (sn6 _) ?_ | refine acallsW_det (sn7 _) ?_ | refine acallsW_det (sn8 _) ?_ | refine acallsW_det (sn9 _) ?_ | refine acallsW_det (sB _) ?_ | refine acallsW_det (num18_ok _ _) ?_) <;> simp -dsimp [hw0])
  all_goals exact tidy_same rfl ⟨rfl, rfl⟩
end Go.Proofs
