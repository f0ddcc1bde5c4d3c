/- The law FoldPrograms, walked. -/
import Derived.Test.YtpibcbilkpoomaaGreatSTtoFO26
import Derived.Test.YtpibcbilkpoomaaGreatSS1toFO18
import Derived.Test.YtpibcbilkpoomaaGreatG40toFO19
import Derived.Test.YtpibcbilkpoomaaGreatFwRgtoFO6
set_option linter.unusedVariables false
set_option linter.unusedSimpArgs false
set_option maxHeartbeats 4000000
set_option maxRecDepth 100000
namespace Go.Proofs
open Go.Mu
structure Pg.OkR (p : Pg) : Prop where
  ok3 : p.Ok3
  okc : p.OkC
  rng : p.rng = true
theorem Pg.OkR.okp {p : Pg} (h : p.OkR) : p.OkP := ⟨h.ok3.ok, h.okc⟩
theorem same_of2 {p : Pg} (h : p.OkC) (H : List Blk) : ACalls Tryz.prog 20 [.agg p.cells, .agg p.cells] H (fun e H' => e = .ret (Bo true) ∧ H' = H) := by
  have hs : p.OkS := ⟨by have := h.regions; omega, by have := h.funcs; omega, fun f hf => by have := h.params f hf; omega, fun f hf => by have := h.vars f hf; omega, fun f hf => by have := h.rets f hf; omega, fun f hf => by have := h.body f hf; omega⟩
  have := rpg_ok p p hs hs H
  rwa [pg_refl] at this
theorem rd_of {p : Pg} {F : Fc} (hp : p.OkR) (h : AskP p F) : RdOk p.regions F ∧ smsRng F.body = true := by
  have e := h.eq
  have hc := hp.okc
  have hr := hp.rng
  rw [e] at hc hr
  refine ⟨⟨⟨rfl, h.okf, h.kinds⟩, hc⟩, ?_⟩
  simp only [Pg.rng, onePg, List.all_cons, List.all_nil, Bool.and_true, Bool.and_eq_true, Fc.rng] at hr
  exact hr.2.2
end Go.Proofs
namespace Go.Proofs
open Go.Mu
def exP (e : Ex) : Pg := ⟨[], [⟨ByteArray.empty, [], [], [], [setS lX e]⟩]⟩
theorem exP_cnt (e : Ex) : smsCount [setS lX e] ≤ e.count + 9 := by
  rw [smsCount, smsCount, Sm.count_eq]
  simp [setS, eZ, Sm.names, Sm.e, Sm.a, Sm.args, Sm.body, Sm.els, Ex.count, exsCount, smsCount]
  omega
theorem exP_ok2 (e : Ex) (h : e.count ≤ 2^30) : (exP e).Ok2 := by
  have hc := exP_cnt e
  have one : ∀ f ∈ (exP e).funcs, f = ⟨ByteArray.empty, [], [], [], [setS lX e]⟩ := fun f hf => by simpa [exP] using hf
  refine ⟨⟨by simp [exP], by simp [exP], fun f hf => ?_, fun f hf => ?_, fun f hf => ?_, fun f hf => ?_⟩, ⟨by simp [exP], fun f hf => ⟨?_, ?_, ?_⟩⟩, fun f hf => ?_⟩ <;> obtain rfl := one f hf
  · show smsCount [setS lX e] ≤ _; omega
  · simp
  · simp
  · simp
  · show ByteArray.size ByteArray.empty ≤ _; decide
  · intro v hv; simp at hv
  · intro s hs; simp at hs
  · show smsCount [setS lX e] ≤ _; omega
theorem small12_ok (e : Ex) (h : e.count ≤ 2^30) (n : Int) (H : List Blk) : ACalls Tryz.prog 24 [.agg e.cells, I n] H (fun x H' => x = .ret (Bo (smallB (exP e) n)) ∧ H' = H) := by
  refine acalls_tidy (acalls_of_vc (hn := fun _ => false) (od := fun _ => none) Tryz.func24 rfl (by kernel_rfl) ?_)
  have cs : ∀ H, ACalls Tryz.prog 8 [.agg [nilS, .vs 5 [[St ByteArray.empty, nilS, nilS, nilS, .vs 16 [(setS lX e).cells]]]], I n] H (fun x H' => x = .ret (Bo (smallB (exP e) n)) ∧ H' = H) := fun H =>
    acalls_weak (args' := [.agg (exP e).cells, I n]) (.cons (.aggL (.cons (.nil 4) (.cons (.vsR (.cons (.cons (.refl _) (.cons (.nil 4) (.cons (.nil 4) (.cons (.nil 1) (.cons (.refl _) .nil))))) .nil)) .nil))) (.cons (.refl _) .nil)) (small_ok (exP e) (exP_ok2 e h) n H)
  have cset := fun H => set12_ok lX e H
  simp only [Ex.cells_eq] at cset ⊢
  simp -dsimp
  refine acallsW_det (cset _) ?_
  rw [Sm.cells_eq] at cs ⊢
  simp -dsimp
  refine acallsW_det (cs _) ?_
  simp -dsimp
  exact tidy_same rfl ⟨rfl, rfl⟩
theorem okP_fold {rs : List Rg} {F : Fc} (h : (onePg rs F).OkP) : (onePg rs F.fold1).OkP := by
  have hc := one_okC h.okc
  have m0 : F ∈ (onePg rs F).funcs := List.mem_singleton.2 rfl
  have m1 : ∀ f ∈ (onePg rs F.fold1).funcs, f = F.fold1 := fun f hf => List.mem_singleton.1 hf
  have b36 := hc.body
  have h2 := h.ok2
  refine ⟨⟨⟨h2.ok.regions, by simp [onePg], fun f hf => by have := b36 f hf; omega, fun f hf => ?_, fun f hf => ?_, fun f hf => ?_⟩, ⟨h2.nok.regions, fun f hf => ?_⟩, b36⟩, hc⟩ <;> obtain rfl := m1 f hf
  · exact h2.ok.params F m0
  · exact h2.ok.vars F m0
  · exact h2.ok.rets F m0
  · exact h2.nok.funcs F m0
theorem okP_rounds {rs : List Rg} (n : Nat) : ∀ F : Fc, (onePg rs F).OkP → (onePg rs (roundsF rs n F).1).OkP := by
  induction n with
  | zero => intro F h; exact h
  | succ n ih =>
    intro F h
    rw [roundsF]
    split
    · exact h
    · exact ih _ (okP_fold h)
theorem foldDone_ok (p : Pg) (hp : p.OkR) (e : Ex) (he : e.count ≤ 2^30) (H : List Blk) : ACalls Tryz.prog 6 [.agg p.cells, .agg e.cells] H (fun e H' => e = .ret (Bo true) ∧ H' = H) := by
  have c1 := fun H => small_ok p hp.ok3.ok 1500 H
  have c2 := fun H => small12_ok e he 1500 H
  have hxc := ex_fold_count noK e
  have cE1 := fun H => fexpr_ok noK _ e (Nat.lt_succ_self _) (by omega) H _ (noK_at H)
  have cE2 := fun H => fexpr_ok noK _ (e.fold noK) (Nat.lt_succ_self _) (by omega) H _ (noK_at H)
  rw [(noK_twice _).1 e (Nat.le_refl _)] at cE2
  have cS := fun H => rex_ok _ (e.fold noK) (e.fold noK) (Nat.lt_succ_self _) (by omega) (by omega) H
  rw [ex_refl] at cS
  have s1 := fun H => rsafe_ok _ e (Nat.lt_succ_self _) (by omega) H
  have s2 := fun H => safe_ok _ (e.fold noK) (Nat.lt_succ_self _) (by omega) H
  have hsf := fold_safe noK _ e (Nat.le_refl _)
  have cr := fun H => frounds_ok p hp.okp H
  obtain ⟨x, hx⟩ : ∃ x, x = e.fold noK := ⟨_, rfl⟩
  rw [← hx] at cE1 cE2 cS s2 hsf
  clear hxc hx
  -- what comes of the program
  have hq : ∀ (q : Pg) (t : List (List Tm)) (f : Int), (q, t, f) = foldRE p → f = 0 → t.length < 8 → ∃ (r : Pg) (T : List Tm), (∀ H, ACalls Tryz.prog 19 [.agg q.cells] H (fun e H' => e = .ret (.tup [.agg r.cells, Tm.sl T, I 0]) ∧ H' = H)) ∧ (∀ H, ACalls Tryz.prog 20 [.agg q.cells, .agg r.cells] H (fun e H' => e = .ret (Bo true) ∧ H' = H)) := by
    intro q t f hE hf ht
    by_cases h0 : askF p = 0
    · obtain ⟨F, hF⟩ := ask_has hp.okp h0
      obtain ⟨hRd, hr⟩ := rd_of hp hF
      rw [foldRE_one hF h0] at hE
      simp only [Prod.mk.injEq] at hE
      obtain ⟨rfl, rfl, -⟩ := hE
      rw [hF.eq] at h0
      obtain ⟨a1, a2, a3⟩ := rounds_end 8 F hRd h0 ht
      obtain ⟨G, hG⟩ : ∃ G, G = (roundsF p.regions 8 F).1 := ⟨_, rfl⟩
      rw [← hG] at a1 a2 a3 ⊢
      have hGp : (onePg p.regions G).OkP := by
        rw [hG]
        have := hp.okp
        rw [hF.eq] at this
        exact okP_rounds 8 F this
      have cp := fun H => fprog_ok _ hGp H
      have eG : AskP (onePg p.regions G) G := a2.ask
      rw [foldE_one eG a1] at cp
      refine ⟨_, _, cp, fun H => ?_⟩
      have := (pg_same _ _).1 a3
      have hs := same_of2 a2.okc H
      show ACalls _ _ [.agg (onePg p.regions G).cells, .agg (onePg p.regions G.fold1).cells] _ _
      rw [← this]
      exact hs
    · rw [foldRE, if_neg h0] at hE
      simp only [Prod.mk.injEq] at hE
      exact absurd (hE.2.2.symm.trans hf) h0
  obtain ⟨q, t, f, hE⟩ : ∃ q t f, (q, t, f) = foldRE p := ⟨_, _, _, rfl⟩
  have hq := hq q t f hE
  rw [← hE] at cr
  clear hE
  simp only [Ex.cells_eq, Pg.cells] at c1 c2 cE1 cE2 cS s1 s2 cr hq ⊢
  refine acalls_tidy (acalls_of_vc (hn := fun _ => false) (od := fun _ => none) Tryz.func6 rfl (by kernel_rfl) ?_)
  simp -dsimp
  refine acallsW_det (c1 _) ?_
  cases smallB p 1500
  · simp -dsimp
    refine acallsW_det (known12_ok _) ?_
    simp -dsimp
    exact tidy_same rfl ⟨rfl, rfl⟩
  simp -dsimp
  refine acallsW_det (c2 _) ?_
  cases smallB (exP e) 1500
  · simp -dsimp
    refine acallsW_det (known12_ok _) ?_
    simp -dsimp
    exact tidy_same rfl ⟨rfl, rfl⟩
  simp -dsimp
  refine acallsW_det (cE1 _) ?_
  simp -dsimp
  refine callDW_intro (cE2 _) ?_
  simp -dsimp
  refine callDW_intro (cS _) ?_
  simp -dsimp
  refine callDW_intro (s1 _) ?_
  -- the program
  cases hes : e.safe
  · simp -dsimp
    refine acallsW_det (cr _) ?_
    simp -dsimp
    refine acallsW_det (num12_ok f _) ?_
    simp -dsimp
    by_cases hf : f = 0
    · have hfb : (f != 0) = false := by rw [hf]; rfl
      simp -dsimp [hfb]
      by_cases ht : (8 : Int) ≤ t.length
      · simp -dsimp [ht]
        refine acallsW_det (known12_ok _) ?_
        simp -dsimp
        exact tidy_same rfl ⟨rfl, rfl⟩
      · simp -dsimp [ht]
        obtain ⟨r, T, c3, c4⟩ := hq hf (by omega)
        refine acallsW_det (c3 _) ?_
        simp -dsimp
        refine acallsW_det (num12_ok 0 _) ?_
        simp -dsimp
        refine acallsW_det (c4 _) ?_
        simp -dsimp
        refine acallsW_det (known12_ok _) ?_
        simp -dsimp
        exact tidy_same rfl ⟨rfl, rfl⟩
    · have hfb : (f != 0) = true := by simpa using hf
      simp -dsimp [hfb]
      refine acallsW_det (known12_ok _) ?_
      simp -dsimp
      exact tidy_same rfl ⟨rfl, rfl⟩
  · rw [hsf hes] at s2
    simp -dsimp
    refine callDW_intro (s2 _) ?_
    simp -dsimp
    refine acallsW_det (cr _) ?_
    simp -dsimp
    refine acallsW_det (num12_ok f _) ?_
    simp -dsimp
    by_cases hf : f = 0
    · have hfb : (f != 0) = false := by rw [hf]; rfl
      simp -dsimp [hfb]
      by_cases ht : (8 : Int) ≤ t.length
      · simp -dsimp [ht]
        refine acallsW_det (known12_ok _) ?_
        simp -dsimp
        exact tidy_same rfl ⟨rfl, rfl⟩
      · simp -dsimp [ht]
        obtain ⟨r, T, c3, c4⟩ := hq hf (by omega)
        refine acallsW_det (c3 _) ?_
        simp -dsimp
        refine acallsW_det (num12_ok 0 _) ?_
        simp -dsimp
        refine acallsW_det (c4 _) ?_
        simp -dsimp
        refine acallsW_det (known12_ok _) ?_
        simp -dsimp
        exact tidy_same rfl ⟨rfl, rfl⟩
    · have hfb : (f != 0) = true := by simpa using hf
      simp -dsimp [hfb]
      refine acallsW_det (known12_ok _) ?_
      simp -dsimp
      exact tidy_same rfl ⟨rfl, rfl⟩
end Go.Proofs
