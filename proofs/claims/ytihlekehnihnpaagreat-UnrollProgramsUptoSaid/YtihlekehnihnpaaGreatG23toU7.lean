/- May a program be: its walk. -/
import Derived.Test.YtihlekehnihnpaaGreatG21toU6
set_option linter.unusedVariables false
set_option linter.unusedSimpArgs false
set_option maxHeartbeats 4000000
set_option maxRecDepth 100000
namespace Go.Proofs
open Go.Mu
structure Pg.Ok2 (p : Pg) : Prop where
  ok : p.Ok
  nok : p.NOk
  body36 : ∀ f ∈ p.funcs, smsCount f.body ≤ 2^36
theorem asksE_drop {p : Pg} {i : Nat} (h : i < p.funcs.length) : asksE p i (p.funcs.drop i) = thenE (askE p i p.funcs[i]) (asksE p (i + 1) (p.funcs.drop (i + 1))) := by rw [drop_cons h, asksE]
theorem asksE_end {p : Pg} {i : Nat} (h : ¬ i < p.funcs.length) : asksE p i (p.funcs.drop i) = 0 := by rw [drop_end h]; rfl
theorem may1_ok (p : Pg) (hp : p.Ok2) (b : Nat) (H : List Blk) (hb : H[b]? = some (.box 25 p.cells)) : ACalls Tryz.prog 105 [.bp b 0] H (ChkR (mayE p) H) := by
  refine acalls_tidy (acalls_of_awp Tryz.func105 rfl (by kernel_rfl) ?_)
  obtain ⟨E, hE⟩ : ∃ E, E = mayE p := ⟨_, rfl⟩
  rw [← hE]
  have hbL := fun L => get_app_old hb L
  have endP : ∀ e L, e = E → e ≠ 0 → Tidy H (ChkR E H) (.pan (refS e)) (H ++ L) := fun e L he h0 => tidy_chkP he h0
  have end0 : ∀ L, E = 0 → Tidy H (ChkR E H) (.ret (.tup [])) (H ++ L) := fun L he => tidy_chk0 he
  have endP0 : ∀ e, e = E → e ≠ 0 → Tidy H (ChkR E H) (.pan (refS e)) H := fun e he h0 => tidy_chkP' he h0
  unfold mayE at hE
  replace hE := hE.symm
  have c1 := many_ok p hp.ok H
  have c2 := names_ok p hp.ok hp.nok H
  have hpf := hp.ok.funcs
  have hpr := hp.ok.regions
  simp only [Pg.cells] at hb hbL c1 c2
  refine awp_cut (fun _ => false) (fun _ => none) (fun f H' => H = H' ∧ f 0 = .bp b 0 ∧ manyE p = 0) (by kernel_rfl) ?_ ?_
  · simp -dsimp [hb]
    refine chkW c1 (fun hz => ?_) (fun hz => ?_)
    · simp -dsimp
      exact hz
    · simp -dsimp
      rw [thenE_ne hz] at hE
      exact endP0 _ hE hz
  rintro g _ ⟨rfl, g0, h1⟩
  rw [h1, thenE_zero] at hE
  refine awp_cut (fun _ => false) (fun _ => none) (fun f H' => H = H' ∧ f 0 = .bp b 0 ∧ namesE p = 0) (by kernel_rfl) ?_ ?_
  · simp -dsimp [hb, g0]
    refine chkW c2 (fun hz => ?_) (fun hz => ?_)
    · simp -dsimp [g0]
      exact hz
    · simp -dsimp
      rw [thenE_ne hz] at hE
      exact endP0 _ hE hz
  clear g g0
  rintro g _ ⟨rfl, g0, h2⟩
  rw [h2, thenE_zero] at hE
  have c3 := bounds_ok p hp.ok.regions (sizes_in h1) H
  simp only [Pg.cells] at c3
  refine awp_cut (fun _ => false) (fun _ => none) (fun f H' => H = H' ∧ f 0 = .bp b 0 ∧ boundsE [] p.regions = 0) (by kernel_rfl) ?_ ?_
  · simp -dsimp [hb, g0]
    refine chkW c3 (fun hz => ?_) (fun hz => ?_)
    · simp -dsimp [g0]
      exact hz
    · simp -dsimp
      rw [thenE_ne hz] at hE
      exact endP0 _ hE hz
  clear g g0
  rintro g _ ⟨rfl, g0, h3⟩
  rw [h3, thenE_zero] at hE
  clear c1 c2 c3 h1 h2 h3
  -- kinds
  refine awp_cut (fun _ => false) (fun _ => none) (fun f H' => (∃ L, H' = H ++ L) ∧ f 0 = .bp b 0 ∧ allE kindsE p.funcs = 0) (by kernel_rfl) ?_ ?_
  · simp -dsimp [hb, g0]
    refine loop_rule (hn := fun _ => false) (od := fun _ => none) (fun (i : Nat) g H' => (∃ L, H' = H ++ L) ∧ g 0 = .bp b 0 ∧ g 17 = Fc.sl p.funcs ∧ g 18 = I p.funcs.length ∧ g 19 = I i ∧ i ≤ p.funcs.length ∧ allE kindsE (p.funcs.drop i) = allE kindsE p.funcs) (fun i => p.funcs.length - i) (by kernel_rfl) 0 (by simp [g0]) ?_
    clear g g0
    rintro i g _ ⟨⟨L, rfl⟩, g0, g17, g18, g19, hi, hinv⟩
    simp -dsimp [g0, g17, g18, g19]
    refine condVW_introD (fun hlt => ?_) (fun hlt => ?_)
    · rw [allE_drop _ hlt] at hinv
      have ck := kinds_ok p.funcs[i] (by have := hp.ok.params _ (List.getElem_mem hlt); omega) (by have := hp.ok.vars _ (List.getElem_mem hlt); omega) (H ++ (L ++ [.box 37 p.funcs[i].cells]))
      simp only [Fc.cells] at ck
      simp -dsimp [g0, g17, g18, g19, List.getElem?_eq_getElem, hlt]
      refine chkW ck (fun hz => ?_) (fun hz => ?_)
      · simp -dsimp [g0, g17, g18, g19]
        rw [hz, thenE_zero] at hinv
        exact ⟨i + 1, by omega, wrapS (by omega), by omega, hinv⟩
      · simp -dsimp
        rw [thenE_ne hz] at hinv
        exact endP _ _ (by rw [← hE, ← hinv, thenE_ne hz]) hz
    · simp -dsimp [g0]
      rw [allE_end _ hlt] at hinv
      exact hinv.symm
  clear g g0
  rintro g _ ⟨⟨L0, rfl⟩, g0, h4⟩
  rw [h4, thenE_zero] at hE
  clear h4
  obtain ⟨rl, hrl⟩ : ∃ rl, rl = p.regions.map Rg.name := ⟨_, rfl⟩
  -- statements
  refine awp_cut (fun _ => false) (fun _ => none) (fun f H' => H' = H ++ L0 ∧ f 0 = .bp b 0 ∧ f 27 = Fc.sl p.funcs ∧ f 28 = I p.funcs.length ∧ f 29 = I 0) (by kernel_rfl) ?_ ?_
  · simp -dsimp [hbL, g0]
  clear g g0
  rintro g _ ⟨rfl, g0, g27, g28, g29⟩
  refine awp_block ?_
  refine awp_loopI (fun (i : Nat) g H' => (∃ L, H' = H ++ L) ∧ g 0 = .bp b 0 ∧ g 27 = Fc.sl p.funcs ∧ g 28 = I p.funcs.length ∧ g 29 = I i ∧ i ≤ p.funcs.length ∧ asksE p i (p.funcs.drop i) = E) (fun i => p.funcs.length - i) 0 ⟨⟨_, rfl⟩, g0, g27, g28, g29, by omega, hE⟩ ?_
  clear g g0 g27 g28 g29
  rintro i g _ ⟨⟨L1, rfl⟩, g0, g27, g28, g29, hi, hinv⟩
  obtain ⟨M, hM⟩ : ∃ M, M = H ++ L1 := ⟨_, rfl⟩
  have hMb : ∀ W, (∃ L, W = M ++ L) → ∀ L, (W ++ L)[b]? = some (.box 25 [Rg.sl p.regions, Fc.sl p.funcs]) := fun W hW L => by
    obtain ⟨L2, rfl⟩ := hW; rw [hM, List.append_assoc, List.append_assoc]; exact hbL _
  have hMe : ∀ W, (∃ L, W = M ++ L) → ∀ L, ∃ L', W ++ L = H ++ L' := fun W hW L => by
    obtain ⟨L2, rfl⟩ := hW; exact ⟨L1 ++ (L2 ++ L), by rw [hM]; simp⟩
  rw [← hM]
  clear hM hb hbL
  refine awp_cut (fun _ => false) (fun _ => none) (fun f H' => M = H' ∧ f 0 = .bp b 0 ∧ f 27 = Fc.sl p.funcs ∧ f 28 = I p.funcs.length ∧ f 29 = I i ∧ f 30 = Bo (decide ((i : Int) < p.funcs.length))) (by kernel_rfl) ?_ ?_
  · simp -dsimp [g0, g27, g28, g29]
  clear g g0 g27 g28 g29
  rintro g _ ⟨rfl, g0, g27, g28, g29, g30⟩
  refine awp_cut (fun _ => false) (fun _ => none) (fun f H' => M = H' ∧ f 0 = .bp b 0 ∧ f 27 = Fc.sl p.funcs ∧ f 28 = I p.funcs.length ∧ f 29 = I i ∧ i < p.funcs.length) (by kernel_rfl) ?_ ?_
  · simp -dsimp [g30]
    refine condVW_introD (fun hlt => ?_) (fun hlt => ?_)
    · simp -dsimp [g0, g27, g28, g29]
      omega
    · simp -dsimp
      rw [asksE_end (by omega)] at hinv
      obtain ⟨L', hL'⟩ := hMe M ⟨[], by simp⟩ []
      rw [List.append_nil] at hL'
      rw [hL']
      exact end0 _ hinv.symm
  clear g g0 g27 g28 g29 g30
  rintro g _ ⟨rfl, g0, g27, g28, g29, hlt⟩
  rw [asksE_drop hlt] at hinv
  have hpp := hp.ok.params _ (List.getElem_mem hlt)
  have hpv := hp.ok.vars _ (List.getElem_mem hlt)
  have hpb := hp.body36 _ (List.getElem_mem hlt)
  obtain ⟨F, hF⟩ : ∃ F, F = p.funcs[i] := ⟨_, rfl⟩
  rw [← hF] at hinv hpp hpv hpb
  unfold askE at hinv
  rw [← hrl] at hinv
  obtain ⟨vs, hvs⟩ : ∃ vs, vs = F.params ++ F.vars := ⟨_, rfl⟩
  have hvl : vs.length ≤ 2^40 := by rw [hvs]; simp; omega
  rw [← hvs] at hinv
  obtain ⟨all, hall⟩ : ∃ all, all = smsWords 1 F.body := ⟨_, rfl⟩
  have hal : all.length ≤ 2^40 := by rw [hall]; have := smsWords_len _ F.body (Nat.le_refl _) 1; omega
  rw [← hall] at hinv
  refine awp_cutA (fun f H' => (∃ L, H' = M ++ L) ∧ f 0 = .bp b 0 ∧ f 27 = Fc.sl p.funcs ∧ f 28 = I p.funcs.length ∧ f 29 = I i ∧ smsChk p i F (varsT vs) (onesT rl []) all 1 [] F.body = 0) ?_ ?_
  rotate_left
  · clear g g0 g27 g28 g29
    rintro g W ⟨hW, g0, g27, g28, g29, h5⟩
    rw [h5, thenE_zero] at hinv
    obtain ⟨L', hL'⟩ := hMe W hW []
    rw [List.append_nil] at hL'
    subst hL'
    refine awp_all (fun _ => false) (fun _ => none) (by kernel_rfl) ?_
    simp -dsimp [g0, g27, g28, g29]
    exact ⟨i + 1, by omega, wrapS (by omega), by omega, hinv⟩
  refine awp_block ?_
  refine awp_cut (fun _ => false) (fun _ => none) (fun f H' => H' = M ++ [.box 37 F.cells] ∧ f 0 = .bp b 0 ∧ f 27 = Fc.sl p.funcs ∧ f 28 = I p.funcs.length ∧ f 29 = I i ∧ f 3 = I i ∧ f 4 = .bp M.length 0) (by kernel_rfl) ?_ ?_
  · simp -dsimp [g0, g27, g28, g29, List.getElem?_eq_getElem, hlt, hF]
  clear g g0 g27 g28 g29
  rintro g _ ⟨rfl, g0, g27, g28, g29, g3, g4⟩
  -- what is asked with
  refine awp_cutA (fun f W => (∃ a kv ka, AskM M W p i F M.length a kv ka all [] [] ∧ f 5 = .bp a 0) ∧ f 0 = .bp b 0 ∧ f 27 = Fc.sl p.funcs ∧ f 28 = I p.funcs.length ∧ f 29 = I i ∧ f 4 = .bp M.length 0) ?_ ?_
  · have hbx : ∀ L, (M ++ L)[b]? = some (.box 25 [Rg.sl p.regions, Fc.sl p.funcs]) := fun L => hMb M ⟨[], by simp⟩ L
    have cc := fun H => counts_ok (smsCount F.body) F.body 1 (Nat.le_refl _) hpb (by omega) H
    rw [← hall] at cc
    refine awp_region_fork (fun _ => false) ⟨[0, 1, 4, 5, 6], 2, 3, [0, 4, 5, 6], [0, 4, 5, 6], [(3, [0, 4, 5, 6]), (7, []), (8, []), (9, [])], [(2, [0, 4, 5, 6]), (7, []), (8, []), (9, [])]⟩ (by kernel_rfl) ?_
    simp -dsimp [g0, g27, g28, g29, g3, g4, hbx]
    repeat' (with_reducible first | refine And.intro ?_ ?_ | refine callDW_intro (cc _) ?_ | (simp -dsimp [g0, g27, g28, g29, g3, g4, hbx]; done) | simp -dsimp [g0, g27, g28, g29, g3, g4, hbx])
    · exact ⟨M.length + 1, M.length + 2, ⟨_, rfl⟩, ⟨by simp [askBox], by simp [strM], by simp [strM]⟩, by omega, by omega, by omega, by omega, by simp⟩
    · exact ⟨M.length + 2, M.length + 1, ⟨_, rfl⟩, ⟨by simp [askBox], by simp [strM], by simp [strM]⟩, by omega, by omega, by omega, by omega, by simp⟩
  clear g g0 g27 g28 g29 g3 g4
  rintro g W ⟨⟨a, kv, ka, hA, g5⟩, g0, g27, g28, g29, g4⟩
  -- regions
  refine awp_cut (fun _ => false) (fun _ => none) (fun f W => AskM M W p i F M.length a kv ka all [] (onesT rl []) ∧ f 5 = .bp a 0 ∧ f 0 = .bp b 0 ∧ f 27 = Fc.sl p.funcs ∧ f 28 = I p.funcs.length ∧ f 29 = I i ∧ f 4 = .bp M.length 0) (by kernel_rfl) ?_ ?_
  · have hb0 := hMb W hA.ext []
    rw [List.append_nil] at hb0
    simp -dsimp [g0, g27, g28, g29, g4, g5, hb0]
    refine loop_rule (hn := fun _ => false) (od := fun _ => none) (fun (j : Nat) f W => AskM M W p i F M.length a kv ka all [] (onesT (rl.take j) []) ∧ f 5 = .bp a 0 ∧ f 0 = .bp b 0 ∧ f 27 = Fc.sl p.funcs ∧ f 28 = I p.funcs.length ∧ f 29 = I i ∧ f 4 = .bp M.length 0 ∧
      f 44 = Rg.sl p.regions ∧ f 45 = I p.regions.length ∧ f 46 = I j ∧ j ≤ p.regions.length) (fun j => p.regions.length - j) (by kernel_rfl) 0 (by simp [g0, g27, g28, g29, g4, g5, onesT]; exact hA) ?_
    clear g g0 g27 g28 g29 g4 g5 hb0 hA
    rintro j g W ⟨hA, g5, g0, g27, g28, g29, g4, g44, g45, g46, hj⟩
    simp -dsimp [g0, g27, g28, g29, g4, g5, g44, g45, g46]
    refine condVW_introD (fun hjt => ?_) (fun hjt => ?_)
    · have hltn : j < rl.length := by rw [hrl]; simpa using hjt
      have hT := onesT_take hltn []
      have hnm : rl[j] = p.regions[j].name := by subst hrl; simp
      rw [hnm] at hT
      obtain ⟨T, hTT⟩ : ∃ T, T = onesT (rl.take j) [] := ⟨_, rfl⟩
      rw [← hTT] at hT hA
      have hst := mset_str okA p.regions[j].name true T
      have hbx := fun L => (hA.app L).ask.box
      have hme : ∀ L, mapEs (W ++ L) (.hm ka) = some (strM okA T) := fun L => by simp only [mapEs]; rw [(hA.app L).ask.arr]
      simp only [askBox] at hbx
      simp -dsimp [g0, g27, g28, g29, g4, g5, g44, g45, g46, List.getElem?_eq_getElem, hjt, hbx, hme, hst]
      exact ⟨j + 1, by omega, by rw [hT]; exact (hA.app _).setK _, wrapS (by omega), by omega⟩
    · have e : rl.take j = rl := List.take_of_length_le (by subst hrl; simp; omega)
      rw [e] at hA
      simp -dsimp [g0, g27, g28, g29, g4, g5]
      exact hA
  clear g g0 g27 g28 g29 g4 g5 hA
  rintro g W ⟨hA, g5, g0, g27, g28, g29, g4⟩
  -- variables
  refine awp_cutA (fun f W => AskM M W p i F M.length a kv ka all (varsT vs) (onesT rl []) ∧ f 5 = .bp a 0 ∧ f 0 = .bp b 0 ∧ f 27 = Fc.sl p.funcs ∧ f 28 = I p.funcs.length ∧ f 29 = I i ∧ f 4 = .bp M.length 0) ?_ ?_
  · refine awp_cut (fun d => d == 60 || d == 63) (fun id => if id = 17 then some [(0, []), (1, []), (3, []), (4, []), (7, []), (2, [3, 4, 7]), (5, [7]), (6, [])] else none) (fun f W => AskM M W p i F M.length a kv ka all [] (onesT rl []) ∧ RowAt W (f 63) 67 4 (vs.map Vr.cells) ∧ f 5 = .bp a 0 ∧ f 0 = .bp b 0 ∧ f 27 = Fc.sl p.funcs ∧ f 28 = I p.funcs.length ∧ f 29 = I i ∧ f 4 = .bp M.length 0 ∧ f 64 = I vs.length ∧ f 65 = I 0) (by kernel_rfl) ?_ ?_
    · have hfb := fun L => (hA.app L).fb
      have hfb0 := hA.fb
      simp only [Fc.cells] at hfb hfb0
      simp -dsimp [g0, g27, g28, g29, g4, g5, hfb, hfb0]
      refine acallsW_of (vclone_ok F.params hpp _) ?_
      rintro e H' (⟨hl, rfl, rfl⟩ | ⟨rfl, rfl⟩)
      · simp -dsimp [g0, g27, g28, g29, g4, g5, hfb, hfb0]
        refine appendVW_nil (by simp; omega) (by simp; omega) (fun hy => ?_) (fun hy => ?_)
        · have hv : F.vars = [] := by simpa using hy
          simp -dsimp [g0, g27, g28, g29, g4, g5, hl, hv, hvs]
          exact ⟨hA, .inl ⟨rfl, rfl⟩⟩
        · simp -dsimp [g0, g27, g28, g29, g4, g5, hl, hvs]
          exact ⟨hA.app _, .inr ⟨H'.length, by simp, by simp⟩⟩
      · simp -dsimp [g0, g27, g28, g29, g4, g5, hfb, hfb0]
        refine appendVW_hs (es := F.params.map Vr.cells) (by simp) (by simp) (by simp) (by simp; omega) (by simp; omega) ?_
        simp -dsimp [g0, g27, g28, g29, g4, g5, hvs]
        exact ⟨hA.app _, .inr ⟨W.length, by simp, by simp⟩⟩
    clear g g0 g27 g28 g29 g4 g5 hA
    rintro g W ⟨hA, hrow, g5, g0, g27, g28, g29, g4, g64, g65⟩
    refine awp_all (fun _ => false) (fun _ => none) (by kernel_rfl) ?_
    simp -dsimp
    refine loop_rule (hn := fun _ => false) (od := fun _ => none) (fun (j : Nat) f W => AskM M W p i F M.length a kv ka all (varsT (vs.take j)) (onesT rl []) ∧ RowAt W (f 63) 67 4 (vs.map Vr.cells) ∧ f 5 = .bp a 0 ∧ f 0 = .bp b 0 ∧ f 27 = Fc.sl p.funcs ∧ f 28 = I p.funcs.length ∧ f 29 = I i ∧ f 4 = .bp M.length 0 ∧ f 64 = I vs.length ∧ f 65 = I j ∧ j ≤ vs.length) (fun j => vs.length - j) (by kernel_rfl) 0 (by simp [g0, g27, g28, g29, g4, g5, g64, g65, hrow, varsT]; exact hA) ?_
    clear g g0 g27 g28 g29 g4 g5 g64 g65 hA hrow
    rintro j g W ⟨hA, hrow, g5, g0, g27, g28, g29, g4, g64, g65, hj⟩
    simp -dsimp [g64, g65]
    refine condVW_introD (fun hjt => ?_) (fun hjt => ?_)
    · rcases hrow with ⟨g63, hes⟩ | ⟨n, g63, hn⟩
      · have : vs = [] := by simpa using hes
        rw [this] at hjt
        simp at hjt
      · have hT := varsT_take hjt
        obtain ⟨T, hTT⟩ : ∃ T, T = varsT (vs.take j) := ⟨_, rfl⟩
        rw [← hTT] at hT hA
        have hst := mset_str Vr.av vs[j].name vs[j] T
        simp only [Vr.av, Vr.cells] at hst
        have hbx := fun L => (hA.app L).ask.box
        have hme : ∀ L, mapEs (W ++ L) (.hm kv) = some (strM Vr.av T) := fun L => by simp only [mapEs]; rw [(hA.app L).ask.vars]
        have hnL := fun L => get_app_old hn L
        simp only [askBox] at hbx
        simp -dsimp [g0, g27, g28, g29, g4, g5, g63, g64, g65, List.getElem?_eq_getElem, hjt, hbx, hme, hst, hn, hnL]
        exact ⟨j + 1, by omega, by rw [hT]; exact (hA.app _).setV _, (RowAt.app (.inr ⟨n, by simp, hn⟩) _).set (hA.app _).ask.vars _, wrapS (by omega), by omega⟩
    · have e : vs.take j = vs := List.take_of_length_le (by omega)
      rw [e] at hA
      simp -dsimp [g0, g27, g28, g29, g4, g5]
      exact hA
  clear g g0 g27 g28 g29 g4 g5 hA
  rintro g W ⟨hA, g5, g0, g27, g28, g29, g4⟩
  refine awp_all (fun _ => false) (fun _ => none) (by kernel_rfl) ?_
  have hfb := hA.fb
  simp only [Fc.cells] at hfb
  simp -dsimp [g0, g27, g28, g29, g4, g5, hfb]
  refine acallsW_of (stmts_top hp.ok hal hlt hF F.body hpb W hA.ask) ?_
  rintro e H' ⟨h1, h2, X, Y, rfl⟩
  have hex : ∃ L, W.set a X ++ [Y] = M ++ L := by
    obtain ⟨L, hL⟩ := set_ext hA.ext hA.la X
    exact ⟨L ++ [Y], by rw [hL, List.append_assoc]⟩
  by_cases hc : smsChk p i F (varsT vs) (onesT rl []) all 1 [] F.body = 0
  · obtain rfl := h1 hc
    simp -dsimp [g0, g27, g28, g29, g4, g5]
    exact ⟨hex, hc⟩
  · obtain rfl := h2 hc
    simp -dsimp
    rw [thenE_ne hc] at hinv
    obtain ⟨L', hL'⟩ := hMe _ hex []
    rw [List.append_nil] at hL'
    rw [hL']
    exact endP _ _ hinv hc
end Go.Proofs
namespace Go.Proofs
open Go.Mu
@[simp] theorem nil20 : binE Tryz.prog .eql 20 (.v .nilIface) (.v .nilIface) = some (.v (.bool true)) := by kernel_rfl
@[simp] theorem ifc20 (t : Nat) (x : AV) : binE Tryz.prog .eql 20 (.ifc t x) (.v .nilIface) = some (.v (.bool false)) := by kernel_rfl
theorem krec_none (t : Nat) (H : List Blk) : RecSem Tryz.prog ⟨135, [.bp t 0], none⟩ (.v .nilIface) H (fun H' => H' = H) := by
  refine recSem_of_vc (hn := fun _ => false) (od := fun _ => none) Tryz.func135 rfl rfl (by kernel_rfl) ?_
  show vcC _ _ _ _ _ (recQ _) _ _ _
  simp -dsimp
theorem krec_some (t : Nat) (H : List Blk) (n e : Int) (h : H[t]? = some (.box 40 [I n])) : RecSem Tryz.prog ⟨135, [.bp t 0], none⟩ (refS e) H (fun H' => ∃ L, H' = H.set t (.box 40 [I e]) ++ L) := by
  refine recSem_of_vc (hn := fun _ => false) (od := fun _ => none) Tryz.func135 rfl rfl (by kernel_rfl) ?_
  show vcC _ _ _ _ _ (recQ _) _ _ _
  have hl := lt_of_get h
  have hL := fun L => get_app_old h L
  have hs : ∀ L X, (H ++ L).set t X = H.set t X ++ L := fun L X => by rw [List.set_append, if_pos hl]
  simp -dsimp [assertV, refS, h, hL, hs]
theorem kept_ok (g : FuncId) (cap : List AV) (E : Int) (H : List Blk) (hok : okFn Tryz.prog g = true) (hg : ∀ L, ACalls Tryz.prog g cap (H ++ L) (ChkR E (H ++ L))) : ACalls Tryz.prog 104 [.fn (.func g) [] cap] H (fun e H' => e = .ret (I E) ∧ H' = H) := by
  refine acalls_tidy (acalls_of_vcD (hn := fun _ => false) (od := fun _ => none) Tryz.func104 rfl (by kernel_rfl) ?_)
  simp -dsimp [hok]
  refine chkW (hg _) (fun hz => ?_) (fun hz => ?_)
  · subst hz
    simp -dsimp
    refine recW_of (krec_none _ _) ?_
    rintro H' rfl
    simp -dsimp
    exact tidy_same rfl ⟨rfl, rfl⟩
  · simp -dsimp
    refine recW_of (krec_some _ _ 0 _ (by simp)) ?_
    rintro H' ⟨L, rfl⟩
    simp -dsimp
    exact tidy_same rfl ⟨rfl, rfl⟩
theorem may_ok (p : Pg) (hp : p.Ok2) (H : List Blk) : ACalls Tryz.prog 56 [.agg p.cells] H (fun e H' => e = .ret (I (mayE p)) ∧ H' = H) := by
  refine acalls_tidy (acalls_of_vc (hn := fun _ => false) (od := fun _ => none) Tryz.func56 rfl (by kernel_rfl) ?_)
  simp -dsimp
  refine acallsW_det (kept_ok 105 [.bp H.length 0] (mayE p) (H ++ [.box 25 p.cells]) (by simp) (fun L => may1_ok p hp _ _ (by simp))) ?_
  simp -dsimp
  exact tidy_same rfl ⟨rfl, rfl⟩
end Go.Proofs
namespace Go.Proofs
open Go.Mu
theorem rounds_bnd (m : Nat) : ∀ l : List Sm, smsCount l ≤ m → smsFors l = true → 0 ≤ smsRounds l ∧ smsRounds l ≤ 65537 := by
  induction m with
  | zero => intro l hl _; have := sms_len l; obtain rfl : l = [] := List.eq_nil_of_length_eq_zero (by omega); simp [smsRounds]
  | succ m ih =>
    intro l
    induction l with
    | nil => intro _ _; simp [smsRounds]
    | cons s l ihl =>
      intro h hf
      simp only [smsCount] at h
      have hc := Sm.count_eq s
      rw [smsFors, Bool.and_eq_true, Sm.fors_eq] at hf
      simp only [Bool.and_eq_true] at hf
      obtain ⟨⟨⟨f1, f2⟩, f3⟩, f4⟩ := hf
      have a := ih s.body (by omega) f2
      have b := ih s.els (by omega) f3
      have c := ihl (by omega) f4
      rw [smsRounds, Sm.rounds_eq]
      split
      · rename_i hk
        simp only [hk, if_true, Bool.and_eq_true, decide_eq_true_eq] at f1
        have : 0 ≤ (s.high - s.low) * (1 + min 65537 (smsRounds s.body + smsRounds s.els)) := Int.mul_nonneg (by omega) (by omega)
        omega
      · omega
theorem smsRounds_bnd {l : List Sm} (h : smsFors l = true) : 0 ≤ smsRounds l ∧ smsRounds l ≤ 65537 := rounds_bnd _ l (Nat.le_refl _) h
theorem fors_get {l : List Sm} (h : smsFors l = true) {i : Nat} (hi : i < l.length) : l[i].fors = true := by
  induction l generalizing i with
  | nil => simp at hi
  | cons s l ih =>
    rw [smsFors, Bool.and_eq_true] at h
    cases i with
    | zero => exact h.1
    | succ i => exact ih h.2 (by simpa using hi)
theorem rounds_nonneg {s : Sm} (h : s.fors = true) : 0 ≤ s.rounds ∧ s.rounds ≤ 65536 * 65538 + 65537 := by
  rw [Sm.fors_eq] at h
  simp only [Bool.and_eq_true] at h
  obtain ⟨⟨f1, f2⟩, f3⟩ := h
  have a := smsRounds_bnd f2
  have b := smsRounds_bnd f3
  rw [Sm.rounds_eq]
  split
  · rename_i hk
    simp only [hk, if_true, Bool.and_eq_true, decide_eq_true_eq] at f1
    refine ⟨Int.mul_nonneg (by omega) (by omega), ?_⟩
    have h1 : (s.high - s.low) * (1 + min 65537 (smsRounds s.body + smsRounds s.els)) ≤ 65536 * (1 + min 65537 (smsRounds s.body + smsRounds s.els)) := Int.mul_le_mul_of_nonneg_right (by omega) (by omega)
    omega
  · omega
theorem rounds_ok (m : Nat) : ∀ (l : List Sm), smsCount l < m → smsCount l ≤ 2^36 → smsFors l = true → ∀ (H : List Blk), ACalls Tryz.prog 96 [Sm.sl l] H (fun r H' => r = .ret (I (smsRounds l)) ∧ H' = H) := by
  induction m with
  | zero => intro l h; omega
  | succ m ih =>
    intro l hm hc hf H
    refine acalls_tidy (acalls_of_vc (hn := fun _ => false) (od := fun _ => none) Tryz.func96 rfl (by kernel_rfl) ?_)
    have hl := sms_len l
    obtain ⟨E, hE⟩ : ∃ E, E = smsRounds l := ⟨_, rfl⟩
    rw [← hE]
    have hb0 := smsRounds_bnd hf
    simp -dsimp
    refine loop_rule (hn := fun _ => false) (od := fun _ => none) (fun (i : Nat) f H' => (∃ L, H' = H ++ L) ∧ (∃ n, f 3 = I n ∧ 0 ≤ n ∧ n ≤ 65537 ∧ min 65537 (n + smsRounds (l.drop i)) = E) ∧ f 7 = Sm.sl l ∧ f 8 = I l.length ∧ f 9 = I i ∧ i ≤ l.length) (fun i => l.length - i) (by kernel_rfl) 0
      (by
        simp
        rw [hE]; omega) ?_
    rintro i f _ ⟨⟨L, rfl⟩, ⟨n, f3, n0, n1, hinv⟩, f7, f8, f9, hi⟩
    simp -dsimp [f3, f7, f8, f9]
    refine condVW_introD (fun hlt => ?_) (fun hlt => ?_)
    · rw [drop_cons hlt, smsRounds, Sm.rounds_eq] at hinv
      have hlx := List.getElem?_eq_getElem hlt
      have hg := sms_get hlt
      have hfx := fors_get hf hlt
      have hcc := Sm.count_eq l[i]
      obtain ⟨x, hx⟩ : ∃ x, x = l[i] := ⟨_, rfl⟩
      rw [← hx] at hinv hlx hg hfx hcc
      clear hx
      have hr := rounds_nonneg hfx
      rw [Sm.rounds_eq] at hr
      rw [Sm.fors_eq] at hfx
      simp only [Bool.and_eq_true] at hfx
      obtain ⟨⟨q1, q2⟩, q3⟩ := hfx
      have hb1 := smsRounds_bnd q2
      have hb2 := smsRounds_bnd q3
      have cb := fun H => ih x.body (by omega) (by omega) q2 H
      have ce := fun H => ih x.els (by omega) (by omega) q3 H
      obtain ⟨B, hB⟩ : ∃ B, B = smsRounds x.body := ⟨_, rfl⟩
      obtain ⟨C, hC⟩ : ∃ C, C = smsRounds x.els := ⟨_, rfl⟩
      obtain ⟨D, hD⟩ : ∃ D, D = smsRounds (l.drop (i + 1)) := ⟨_, rfl⟩
      rw [← hB] at hinv hr hb1 cb
      rw [← hC] at hinv hr hb2 ce
      rw [← hD] at hinv
      have hD0 : 0 ≤ D := by
        rw [hD]
        have : ∀ (l : List Sm) i, smsFors l = true → smsFors (l.drop i) = true := fun l i h => by
          induction l generalizing i with
          | nil => simpa using h
          | cons s l ih => cases i with
            | zero => exact h
            | succ i => rw [smsFors, Bool.and_eq_true] at h; exact ih i h.2
        exact (smsRounds_bnd (this l (i + 1) hf)).1
      have w1 : IntKind.i64.wrap (B + C) = B + C := wrapI (by omega) (by omega)
      obtain ⟨O, hO⟩ : ∃ O : Int, O = (if B + C < 65537 then B + C else 65537) := ⟨_, rfl⟩
      have hO1 : min 65537 (B + C) = O := by rw [hO]; split <;> omega
      have hO2 : 0 ≤ O ∧ O ≤ 65537 := by omega
      rw [hO1] at hinv hr
      have w2 : IntKind.i64.wrap (1 + O) = 1 + O := wrapI (by omega) (by omega)
      simp -dsimp [f3, f7, f8, f9, hlx]
      refine callDW_intro (cb _) ?_
      simp -dsimp [f3, f7, f8, f9, hlx]
      refine callDW_intro (ce _) ?_
      simp -dsimp [f3, f7, f8, f9, hlx, w1]
      refine condVW_introE (fun hk => ?_) (fun hk _ _ => ?_)
      · rw [if_pos hk] at hinv hr
        simp only [hk, if_true, Bool.and_eq_true, decide_eq_true_eq] at q1
        have w3 : IntKind.u64.wrap (x.high - x.low) = x.high - x.low := wrapU (by omega) (by omega)
        have w4 : IntKind.i64.wrap (x.high - x.low) = x.high - x.low := wrapI (by omega) (by omega)
        obtain ⟨T, hT⟩ : ∃ T, T = (x.high - x.low) * (1 + O) := ⟨_, rfl⟩
        rw [← hT] at hinv hr
        have w5 : IntKind.i64.wrap T = T := wrapI (by omega) (by omega)
        have w6 : IntKind.i64.wrap (n + T) = n + T := wrapI (by omega) (by omega)
        simp -dsimp [f3, f7, f8, f9, ← hO, w2, w3, w4, ← hT, w5, w6]
        refine ⟨i + 1, ?_⟩
        rw [← hD]
        exact ⟨by omega, ⟨by split <;> omega, by split <;> omega, by split <;> omega⟩, wrapS (by omega), by omega⟩
      · rw [if_neg hk] at hinv hr
        have w6 : IntKind.i64.wrap (n + O) = n + O := wrapI (by omega) (by omega)
        simp -dsimp [f3, f7, f8, f9, ← hO, w6]
        refine ⟨i + 1, ?_⟩
        rw [← hD]
        exact ⟨by omega, ⟨by split <;> omega, by split <;> omega, by split <;> omega⟩, wrapS (by omega), by omega⟩
    · rw [drop_end hlt, smsRounds] at hinv
      simp -dsimp [f3]
      have : n = E := by omega
      subst this
      exact tidy_same rfl ⟨rfl, rfl⟩
end Go.Proofs
