/- What is live in code that goes straight on, reckoned (no program in sight). -/
import Derived.Test.YtklgcajfkkoacaaCL2toCW3
import Derived.Test.YtklgcajfkkoacaaFwUtoCV5
import Derived.Test.YtklgcajfkkoacaaFS6toCV7
import Derived.Test.YtklgcajfkkoacaaCW4toCW5
set_option linter.unusedVariables false
set_option linter.unusedSimpArgs false
set_option maxHeartbeats 4000000
set_option maxRecDepth 100000
namespace Go.Proofs
open Go.Mu
def liveC (l : Linear) : Nat → Nat → List Int
  | 0, _ => []
  | f + 1, i => match l.code[i]? with
    | none => if i = l.code.length then riseL l.rets else []
    | some x => riseL (x.raw ++ (nxt l i).flatMap fun k => (liveC l f k.toNat).filter fun v => !decide (v ∈ x.defs))
def straight (l : Linear) : Bool := (List.range l.code.length).all fun i => (nxt l i).all fun k => decide ((i : Int) < k)
theorem liveC_rise (l : Linear) (f i : Nat) : Rising (liveC l f i) := by
  cases f with
  | zero => exact List.Pairwise.nil
  | succ f =>
    rw [liveC]
    split
    · split
      · exact riseL_rise _
      · exact List.Pairwise.nil
    · exact riseL_rise _
theorem liveAt_iff {l : Linear} {i : Nat} {x : Line} (hx : l.code[i]? = some x) {v : Int} : LiveAt l i v ↔ v ∈ x.raw ∨ (v ∉ x.defs ∧ ∃ k : Nat, (k : Int) ∈ nxt l i ∧ LiveAt l k v) := by
  constructor
  · intro h
    cases h with
    | told h => rw [List.getElem?_eq_none (Nat.le_refl _)] at hx; cases hx
    | read hx' h => rw [hx, Option.some.injEq] at hx'; subst hx'; exact .inl h
    | way hx' hd hk h => rw [hx, Option.some.injEq] at hx'; subst hx'; exact .inr ⟨hd, _, hk, h⟩
  · rintro (h | ⟨h, k, hk, hl⟩)
    · exact .read hx h
    · exact .way hx h hk hl
theorem liveC_iff {l : Linear} (ho : LinOk l) (hst : straight l = true) : ∀ (f i : Nat), l.code.length < f + i → ∀ v, v ∈ liveC l f i ↔ LiveAt l i v
  | 0, i, hf, v => by
    rw [liveC]
    constructor
    · intro h; simp at h
    · intro h; have := (live_in ho h).2; omega
  | f + 1, i, hf, v => by
    rw [liveC]
    split
    · rename_i hx
      have hi := List.getElem?_eq_none_iff.1 hx
      by_cases e : i = l.code.length
      · rw [if_pos e, riseL_mem, e]
        constructor
        · exact .told
        · intro h
          cases h with
          | told h => exact h
          | read hx _ => have := (List.getElem?_eq_some_iff.1 hx).1; omega
          | way hx _ _ _ => have := (List.getElem?_eq_some_iff.1 hx).1; omega
      · rw [if_neg e]
        constructor
        · intro h; simp at h
        · intro h; have := (live_in ho h).2; omega
    · rename_i x hx
      rw [riseL_mem, List.mem_append, List.mem_flatMap, liveAt_iff hx]
      have hil := (List.getElem?_eq_some_iff.1 hx).1
      have hgt : ∀ k ∈ nxt l i, (i : Int) < k := fun k hk => by
        have := List.all_eq_true.1 (List.all_eq_true.1 hst i (List.mem_range.2 hil)) k hk
        exact of_decide_eq_true this
      constructor
      · rintro (h | ⟨k, hk, h⟩)
        · exact .inl h
        · rw [List.mem_filter] at h
          have hk2 := hgt k hk
          refine .inr ⟨by simpa using h.2, k.toNat, by rw [Int.toNat_of_nonneg (by omega)]; exact hk, (liveC_iff ho hst f k.toNat (by omega) v).1 h.1⟩
      · rintro (h | ⟨hd, k, hk, h⟩)
        · exact .inl h
        · have hk2 := hgt _ hk
          refine .inr ⟨(k : Int), hk, ?_⟩
          rw [List.mem_filter, Int.toNat_natCast]
          exact ⟨(liveC_iff ho hst f k (by omega) v).2 h, by simpa using hd⟩
theorem liveC_eq {l : Linear} (hok : l.ok = true) (hst : straight l = true) (i : Nat) : liveL l i = liveC l (l.code.length + 1) i := by
  have ho := ((ok_iff l).1 hok).1
  refine sorted_ext (liveL_rise _ _) (liveC_rise _ _ _) fun v => ?_
  rw [live_mem ho]
  by_cases hi : i ≤ l.code.length
  · exact (liveC_iff ho hst _ i (by omega) v).symm
  · constructor
    · intro h; have := (live_in ho h).2; omega
    · intro h
      rw [liveC, List.getElem?_eq_none (by omega)] at h
      simp only at h
      rw [if_neg (by omega)] at h
      simp at h
end Go.Proofs
namespace Go.Proofs
open Go.Mu
def mvL (d a : Int) : Line := ⟨1, ⟨2, 0, d, a, 0, 0, 0, false⟩, 0, 0⟩
def wdL (d n : Int) : Line := ⟨1, ⟨1, 0, d, 0, 0, 0, n, false⟩, 0, 0⟩
def enL : Line := ⟨5, zeroIns, 0, 0⟩
def lA : Linear := ⟨2, [0], [1, 0], 0, [mvL 1 0, wdL 0 5, enL]⟩
def lB : Linear := ⟨2, [0], [1], 0, [mvL 1 0, enL]⟩
theorem kA1 : chkM lA [0, 1] = (0, 0) := by
  have h : ∀ i, liveL lA i = liveC lA 4 i := liveC_eq (by decide +kernel) (by decide +kernel)
  unfold chkM begOk rightOk behL
  simp only [h]
  decide +kernel
theorem kA2 : chkM lA [0, 0] = (1, 16) := by
  have h : ∀ i, liveL lA i = liveC lA 4 i := liveC_eq (by decide +kernel) (by decide +kernel)
  unfold chkM begOk rightOk behL
  simp only [h]
  decide +kernel
theorem kA3 : chkM lA [0] = (-1, 16) := by
  have h : ∀ i, liveL lA i = liveC lA 4 i := liveC_eq (by decide +kernel) (by decide +kernel)
  unfold chkM begOk rightOk behL
  simp only [h]
  decide +kernel
theorem kB1 : chkM lB [0, 0] = (0, 0) := by
  have h : ∀ i, liveL lB i = liveC lB 3 i := liveC_eq (by decide +kernel) (by decide +kernel)
  unfold chkM begOk rightOk behL
  simp only [h]
  decide +kernel
theorem mv_ok (d a : Int) (H : List Blk) : ACalls Try.prog 37 [I d, I a] H (fun e H' => e = .ret (.agg (mvL d a).cells) ∧ H' = H) := by
  refine acalls_tidy (acalls_of_vc (hn := fun _ => false) (od := fun _ => none) Try.func37 rfl (by kernel_rfl) ?_)
  simp -dsimp [mvL]
  try exact tidy_same rfl ⟨rfl, rfl⟩
theorem wd_ok (d n : Int) (H : List Blk) : ACalls Try.prog 17 [I d, U n] H (fun e H' => e = .ret (.agg (wdL d n).cells) ∧ H' = H) := by
  refine acalls_tidy (acalls_of_vc (hn := fun _ => false) (od := fun _ => none) Try.func17 rfl (by kernel_rfl) ?_)
  simp -dsimp [wdL]
  try exact tidy_same rfl ⟨rfl, rfl⟩
theorem en_ok (H : List Blk) : ACalls Try.prog 16 [] H (fun e H' => e = .ret (.agg enL.cells) ∧ H' = H) := by
  refine acalls_tidy (acalls_of_vc (hn := fun _ => false) (od := fun _ => none) Try.func16 rfl (by kernel_rfl) ?_)
  simp -dsimp [enL, zeroIns]
  try exact tidy_same rfl ⟨rfl, rfl⟩
theorem num18_ok (n : Int) (H : List Blk) : ACalls Try.prog 15 [I n] H (fun e H' => e = .ret (I n) ∧ H' = H) := by
  refine acalls_of_vc (hn := fun _ => false) (od := fun _ => none) Try.func15 rfl (by kernel_rfl) ?_
  simp -dsimp
theorem says_ok (l : Linear) (hs : l.Sm) (line e : Int) (regs : List Int) (hrl : regs.length ≤ 2^36) (H : List Blk) : ACalls Try.prog 19 [.agg l.cells, I line, I e, Int.sl regs] H (fun x H' => x = .ret (Bo (decide (chkM l regs = (line, e)))) ∧ H' = H) := by
  refine acalls_tidy (acalls_of_vc (hn := fun _ => false) (od := fun _ => none) Try.func19 rfl (by kernel_rfl) ?_)
  have cc := fun H => ccheck_ok l hs regs hrl H
  simp only [Linear.cells] at cc
  obtain ⟨a, b, hab⟩ : ∃ a b, chkM l regs = (a, b) := ⟨_, _, rfl⟩
  rw [hab] at cc
  have E : decide (chkM l regs = (line, e)) = (a == line && b == e) := by rw [hab, Bool.eq_iff_iff]; simp
  rw [E]
  clear E hab
  simp -dsimp
  repeat' ((with_reducible first | refine And.intro ?_ ?_ | refine guardVW_introTD (fun _ => ?_) (fun _ => ?_) | refine guardVW_introFD (fun _ => ?_) (fun _ => ?_) | refine condVW_introD (fun _ => ?_) (fun _ => ?_) | refine guardVW_introTE (fun _ => ?_) (fun _ _ _ => ?_) | refine guardVW_introFE (fun _ => ?_) (fun _ _ _ => ?_) | refine condVW_introE (fun _ => ?_) (fun _ _ _ => ?_) | refine guardVW_introTNE (fun _ _ _ => ?_) (fun _ => ?_) | refine guardVW_introFNE (fun _ _ _ => ?_) (fun _ => ?_) | refine condVW_introNE (fun _ _ _ => ?_) (fun _ => ?_) | refine guardVW_introTB (fun _ => ?_) (fun _ => ?_) | refine guardVW_introFB (fun _ => ?_) (fun _ => ?_) | refine condVW_introB (fun _ => ?_) (fun _ => ?_) | refine guardVW_introT (fun _ => ?_) (fun _ => ?_) | refine guardVW_introF (fun _ => ?_) (fun _ => ?_) | refine condVW_intro (fun _ => ?_) (fun _ => ?_) | refine acallsW_det (cc _) ?_ | refine callDW_intro (cc _) ?_ | refine acallsW_det (num18_ok _ _) ?_ | refine callDW_intro (num18_ok _ _) ?_) <;> simp -dsimp [*])
  all_goals exact tidy_same rfl ⟨by simp [*], rfl⟩
theorem sm_of {l : Linear} (h : l.params.length + l.rets.length + l.code.length ≤ 2^36) : l.Sm := ⟨by omega, by omega, by omega⟩
theorem known18_ok (H : List Blk) : ACalls Try.prog 12 [] H (fun x H' => x = .ret (Bo true) ∧ H' = H) := by
  refine acalls_tidy (acalls_of_vc (hn := fun _ => false) (od := fun _ => none) Try.func12 rfl (by kernel_rfl) ?_)
  have m1 := fun H => mv_ok 1 0 H
  have w1 := fun H => wd_ok 0 5 H
  have s1 := fun H => says_ok lA (sm_of (by decide)) 0 0 [0, 1] (by decide) H
  have s2 := fun H => says_ok lA (sm_of (by decide)) 1 16 [0, 0] (by decide) H
  have s3 := fun H => says_ok lA (sm_of (by decide)) (-1) 16 [0] (by decide) H
  have s4 := fun H => says_ok lB (sm_of (by decide)) 0 0 [0, 0] (by decide) H
  simp only [kA1, kA2, kA3, kB1, decide_true] at s1 s2 s3 s4
  simp only [lA, lB, Linear.cells, Int.sl, Line.sl, List.map_cons, List.map_nil] at s1 s2 s3 s4
  obtain ⟨ma, hma⟩ : ∃ ma, ma = mvL 1 0 := ⟨_, rfl⟩
  obtain ⟨wa, hwa⟩ : ∃ wa, wa = wdL 0 5 := ⟨_, rfl⟩
  obtain ⟨ea, hea⟩ : ∃ ea, ea = enL := ⟨_, rfl⟩
  have e1 := fun H => en_ok H
  rw [← hma, ← hwa, ← hea] at s1 s2 s3
  rw [← hma, ← hea] at s4
  rw [← hma] at m1
  rw [← hwa] at w1
  rw [← hea] at e1
  clear hma hwa hea
  simp only [Line.cells] at m1 w1 e1 s1 s2 s3 s4
  simp -dsimp
  repeat' ((with_reducible first | refine And.intro ?_ ?_ | refine guardVW_introTD (fun _ => ?_) (fun _ => ?_) | refine guardVW_introFD (fun _ => ?_) (fun _ => ?_) | refine condVW_introD (fun _ => ?_) (fun _ => ?_) | refine guardVW_introTE (fun _ => ?_) (fun _ _ _ => ?_) | refine guardVW_introFE (fun _ => ?_) (fun _ _ _ => ?_) | refine condVW_introE (fun _ => ?_) (fun _ _ _ => ?_) | refine guardVW_introTNE (fun _ _ _ => ?_) (fun _ => ?_) | refine guardVW_introFNE (fun _ _ _ => ?_) (fun _ => ?_) | refine condVW_introNE (fun _ _ _ => ?_) (fun _ => ?_) | refine guardVW_introTB (fun _ => ?_) (fun _ => ?_) | refine guardVW_introFB (fun _ => ?_) (fun _ => ?_) | refine condVW_introB (fun _ => ?_) (fun _ => ?_) | refine guardVW_introT (fun _ => ?_) (fun _ => ?_) | refine guardVW_introF (fun _ => ?_) (fun _ => ?_) | refine condVW_intro (fun _ => ?_) (fun _ => ?_) | refine acallsW_det (m1 _) ?_ | refine callDW_intro (m1 _) ?_ | refine acallsW_det (w1 _) ?_ | refine callDW_intro (w1 _) ?_ | refine acallsW_det (e1 _) ?_ | refine callDW_intro (e1 _) ?_ | refine acallsW_det (s1 _) ?_ | refine callDW_intro (s1 _) ?_ | refine acallsW_det (s2 _) ?_ | refine callDW_intro (s2 _) ?_ | refine acallsW_det (s3 _) ?_ | refine callDW_intro (s3 _) ?_ | refine acallsW_det (s4 _) ?_ | refine callDW_intro (s4 _) ?_) <;> simp -dsimp [*])
  all_goals exact tidy_same rfl ⟨rfl, rfl⟩
end Go.Proofs
namespace Go.Proofs
open Go.Mu
end Go.Proofs
namespace Go.Proofs
open Go.Mu
theorem spread_succ (i : Nat) : spread (i + 1) = spread i ++ [10 - (i : Int)] := by unfold spread; rw [List.range_succ, List.map_append]; rfl
theorem spread_law (l : Linear) (hs : l.Sm) (H : List Blk) : ACalls Try.prog 6 [.agg l.cells] H (fun e H' => e = .ret (Bo true) ∧ H' = H) := by
  refine acalls_under fun hu0 _ => acalls_tidy (acalls_of_awp Try.func6 rfl (by kernel_rfl) ?_)
  have kn := known18_ok
  obtain ⟨N, hN⟩ : ∃ N, N = H ++ [.box 25 [I l.vars, Int.sl l.params, Int.sl l.rets, I l.frame, Line.sl l.code]] := ⟨_, rfl⟩
  have hl : N[H.length]? = some (.box 25 [I l.vars, Int.sl l.params, Int.sl l.rets, I l.frame, Line.sl l.code]) := by rw [hN]; simp
  replace hN := Hid.mk hN
  have hp := hs.params
  have hr := hs.rets
  have hc := hs.code
  refine awp_cut (fun _ => false) (fun _ => none) (fun f M => N = M ∧ f 1 = .bp H.length 0) (by kernel_rfl) ?_ ?_
  · simp -dsimp [hN.out]
  rintro g _ ⟨rfl, g1⟩
  refine awp_under fun huN => ?_
  have hu := Hid.mk huN
  clear huN
  refine awp_cut (fun _ => false) (fun _ => none) (fun f M => N = M ∧ f 1 = .bp H.length 0 ∧ l.vars ≤ 11) (by kernel_rfl) ?_ ?_
  · simp -dsimp [g1, hl]
    repeat' ((with_reducible first | refine guardVW_introTD (fun _ => ?_) (fun _ => ?_) | refine guardVW_introFD (fun _ => ?_) (fun _ => ?_) | refine condVW_introD (fun _ => ?_) (fun _ => ?_) | refine acallsW_det (kn _) ?_) <;> simp -dsimp [*])
    all_goals first
      | omega
      | (rw [hN.out]; exact tidy_same rfl ⟨rfl, rfl⟩)
  clear g g1
  rintro g _ ⟨rfl, g1, hv⟩
  refine awp_cut (fun _ => false) (fun _ => none) (fun f M => N = M ∧ f 1 = .bp H.length 0 ∧ f 3 = nilS) (by kernel_rfl) ?_ ?_
  · simp -dsimp [g1]
  clear g g1
  rintro g _ ⟨rfl, g1, g3⟩
  refine awp_cut (fun d => d == 43) (fun _ => none) (fun f M => f 1 = .bp H.length 0 ∧ ∃ h, f 3 = hrow h (spread l.vars.toNat).length ∧ OwnI N M h (spread l.vars.toNat)) (by kernel_rfl) ?_ ?_
  · simp -dsimp [g1, g3]
    refine loop_rule (hn := fun d => d == 43) (od := fun _ => none) (fun (i : Nat) f M => f 1 = .bp H.length 0 ∧ f 4 = I i ∧ i ≤ l.vars.toNat ∧ ∃ h, f 3 = hrow h (spread i).length ∧ OwnI N M h (spread i)) (fun i => l.vars.toNat - i) (by kernel_rfl) 0 (by refine ⟨by simp [g1], by simp, by omega, none, by simp [g3]; rfl, .nil1 _ _ _⟩) ?_
    clear g g1 g3
    rintro i f M ⟨f1, f4, hi, h, f3, ow⟩
    have hlM := ow.old hl
    simp -dsimp [f1, f4, hlM]
    refine condVW_introD (fun hlt => ?_) (fun hlt => ?_)
    · have hlt' : (i : Int) < l.vars := hlt
      have hw : IntKind.i64.wrap (10 - (i : Int)) = 10 - (i : Int) := wrapI (by omega) (by omega)
      have hnew := spread_succ i
      have hsl := spread_len i
      obtain ⟨pr, hpr⟩ : ∃ pr, pr = spread i := ⟨_, rfl⟩
      rw [← hpr] at hnew f3 ow hsl
      replace hpr := Hid.mk hpr
      replace hnew := Hid.mk hnew
      simp -dsimp [f1, f3, f4, hlM, hw]
      refine app_own ow (by simp) rfl rfl (by simp; omega) (by simp; omega) ?_
      intro h' M' ow' _
      have ow2 : OwnI N M' h' (pr ++ [10 - (i : Int)]) := by unfold OwnI; rw [List.map_append]; exact ow'
      have e : (pr.map (fun n => [I n]) ++ [[I (10 - (i : Int))]]).length = (pr ++ [10 - (i : Int)]).length := by simp
      rw [e]
      rw [← hnew.out] at ow2 ⊢
      simp -dsimp [f1, f4]
      exact ⟨i + 1, by omega, wrapS (by omega), by omega, h', rfl, ow2⟩
    · have hi' : i = l.vars.toNat := by
        have : ¬ (i : Int) < l.vars := hlt
        omega
      subst hi'
      simp -dsimp [f1, f3]
      exact ⟨h, rfl, ow⟩
  clear g g1 g3
  rintro g M ⟨g1, h, g3, ow⟩
  refine awp_giveH 3 hu.out ow (int_frzB _) g3 (map_len _).symm ?_
  rintro M' f f3 ⟨L, rfl⟩ hf hg
  have f1 : f 1 = .bp H.length 0 := by
    rw [hf 1 (by decide) (by rw [g1]; have := lt_of_get hl; simp [AV.under]; omega), g1]
  clear hf hg g1 g3 ow g h M
  have hsl : (spread l.vars.toNat).length ≤ 2^36 := by rw [spread_len]; omega
  have c1 := fun H => ccheck_ok l hs (spread l.vars.toNat) hsl H
  have c2 := fun H => rmay16_ok l (by omega) (by omega) (by omega) H
  have c3 := fun H => rename_ok l hs (spread l.vars.toNat) hsl H
  have c4 := fun H => used_ok l hs (spread l.vars.toNat) hsl H
  simp only [Linear.cells] at c1 c2 c3 c4
  have hlM : ∀ L, (N ++ L)[H.length]? = some (.box 25 [I l.vars, Int.sl l.params, Int.sl l.rets, I l.frame, Line.sl l.code]) := fun L => get_app_old hl L
  have fin : ∀ L, Tidy H (fun e H' => e = AE.ret (Bo true) ∧ H' = H) (.ret (Bo true)) (N ++ L) := fun L => by rw [hN.out, List.append_assoc]; exact tidy_same rfl ⟨rfl, rfl⟩
  cases hok : l.ok
  · have e : chkM l (spread l.vars.toNat) = (0, 2) := by unfold chkM; rw [if_pos hok]
    rw [e] at c1
    rw [hok] at c2
    refine awp_all (fun _ => false) (fun _ => none) (by kernel_rfl) ?_
    simp -dsimp [f1, f3, hlM]
    refine acallsW_det (c1 _) ?_
    simp -dsimp [f1, f3, hlM]
    refine acallsW_det (c2 _) ?_
    simp -dsimp [f1, f3, hlM]
    refine acallsW_det (num18_ok _ _) ?_
    simp -dsimp [f1, f3, hlM]
    refine acallsW_det (kn _) ?_
    simp -dsimp
    exact fin _
  · have e : chkM l (spread l.vars.toNat) = (0, 0) := spread_right hok hv
    have hun := spread_use hok hv
    have hln : (renL l (spread l.vars.toNat)).code.length = l.code.length := by unfold renL; simp
    unfold renE at c3
    unfold usedE at c4
    rw [e, if_pos rfl] at c3 c4
    rw [e] at c1
    rw [hok] at c2
    obtain ⟨R, hR⟩ : ∃ R, R = renL l (spread l.vars.toNat) := ⟨_, rfl⟩
    rw [← hR] at c3 hln
    obtain ⟨rv, rp, rr, rf, rc⟩ := R
    simp only [Linear.cells] at c3 hln
    obtain ⟨us, hus⟩ : ∃ us, us = useL l (spread l.vars.toNat) := ⟨_, rfl⟩
    rw [← hus] at c4 hun
    have hw0 : IntKind.i64.wrap 0 = 0 := by decide +kernel
    have hd : decide ((us.length : Int) ≤ l.vars) = true := decide_eq_true hun
    clear hR hus e hun
    replace hsl := Hid.mk hsl
    refine awp_all (fun _ => false) (fun _ => none) (by kernel_rfl) ?_
    simp -dsimp [f1, f3, hlM]
    refine acallsW_det (c1 _) ?_
    simp -dsimp [f1, f3, hlM]
    refine acallsW_det (c2 _) ?_
    simp -dsimp [f1, f3, hlM]
    refine acallsW_det (c3 _) ?_
    simp -dsimp [f1, f3, hlM]
    refine acallsW_det (c4 _) ?_
    simp -dsimp [f1, f3, hlM]
    refine acallsW_det (num18_ok _ _) ?_
    simp -dsimp [f1, f3, hlM]
    refine acallsW_det (num18_ok _ _) ?_
    simp -dsimp [f1, f3, hlM]
    refine acallsW_det (num18_ok _ _) ?_
    simp -dsimp [f1, f3, hlM, hw0, hln, hd]
    refine acallsW_det (kn _) ?_
    simp -dsimp
    exact fin _
end Go.Proofs
