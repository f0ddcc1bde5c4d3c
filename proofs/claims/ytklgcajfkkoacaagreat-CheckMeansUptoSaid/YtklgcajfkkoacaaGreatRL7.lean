/- Sameness of what ran. -/
import Derived.Test.YtklgcajfkkoacaaGreatFwJmptoRL4
set_option linter.unusedVariables false
set_option linter.unusedSimpArgs false
set_option maxHeartbeats 4000000
set_option maxRecDepth 100000
namespace Go.Proofs
open Go.Mu
theorem samew_ok (a : List Int) (ha : a.length ≤ 2^40) (H : List Blk) : ACalls Tryz.prog 44 [Wo.sl a, Wo.sl a] H (fun e H' => e = .ret (Bo true) ∧ H' = H) := by
  refine acalls_tidy (acalls_of_vc (hn := fun _ => false) (od := fun _ => none) Tryz.func44 rfl (by kernel_rfl) ?_)
  simp -dsimp
  refine loop_rule (hn := fun _ => false) (od := fun _ => none) (fun (i : Nat) f H' => H = H' ∧ f 0 = Wo.sl a ∧ f 1 = Wo.sl a ∧ f 5 = I i ∧ i ≤ a.length) (fun i => a.length - i) (by kernel_rfl) 0 (by simp) ?_
  rintro i f _ ⟨rfl, h0, h1', h5, hi⟩
  simp -dsimp [h0, h1', h5]
  refine condVW_introD (fun hlt => ?_) (fun hlt => ?_)
  · have e1 := List.getElem?_eq_getElem hlt
    obtain ⟨x, hx⟩ : ∃ x, x = a[i] := ⟨_, rfl⟩
    rw [← hx] at e1
    clear hx
    simp -dsimp [h0, h1', h5, e1]
    exact ⟨i + 1, by omega, wrapS (by omega), by omega⟩
  · simp -dsimp
    exact tidy_now rfl ⟨rfl, rfl⟩
theorem sseen_ok (a : List Se) (ha : a.length ≤ 2^40) (H : List Blk) : ACalls Tryz.prog 45 [Se.sl a, Se.sl a] H (fun e H' => e = .ret (Bo true) ∧ H' = H) := by
  refine acalls_tidy (acalls_of_vc (hn := fun _ => false) (od := fun _ => none) Tryz.func45 rfl (by kernel_rfl) ?_)
  simp -dsimp
  refine loop_rule (hn := fun _ => false) (od := fun _ => none) (fun (i : Nat) f H' => H = H' ∧ f 0 = Se.sl a ∧ f 1 = Se.sl a ∧ f 5 = I i ∧ i ≤ a.length) (fun i => a.length - i) (by kernel_rfl) 0 (by simp) ?_
  rintro i f _ ⟨rfl, h0, h1', h5, hi⟩
  simp -dsimp [h0, h1', h5]
  refine condVW_introD (fun hlt => ?_) (fun hlt => ?_)
  · have e1 := List.getElem?_eq_getElem hlt
    obtain ⟨x, hx⟩ : ∃ x, x = a[i] := ⟨_, rfl⟩
    rw [← hx] at e1
    clear hx
    obtain ⟨xj, xt, xa⟩ := x
    simp -dsimp [h0, h1', h5, e1]
    exact ⟨i + 1, by omega, wrapS (by omega), by omega⟩
  · simp -dsimp
    exact tidy_now rfl ⟨rfl, rfl⟩
theorem eqrg_ok (a : List Rg) (ha : a.length ≤ 2^40) (H : List Blk) : ACalls Tryz.prog 47 [Rg.sl a, Rg.sl a] H (fun e H' => e = .ret (Bo true) ∧ H' = H) := by
  refine acalls_tidy (acalls_of_vc (hn := fun _ => false) (od := fun _ => none) Tryz.func47 rfl (by kernel_rfl) ?_)
  simp -dsimp
  refine loop_rule (hn := fun _ => false) (od := fun _ => none) (fun (i : Nat) f H' => H = H' ∧ f 0 = Rg.sl a ∧ f 1 = Rg.sl a ∧ f 12 = I a.length ∧ f 13 = I i ∧ i ≤ a.length) (fun i => a.length - i) (by kernel_rfl) 0 (by simp) ?_
  rintro i f _ ⟨rfl, h0, h1', h12, h13, hi⟩
  simp -dsimp [h0, h1', h12, h13]
  refine condVW_introD (fun hlt => ?_) (fun hlt => ?_)
  · have e1 := List.getElem?_eq_getElem hlt
    obtain ⟨x, hx⟩ : ∃ x, x = a[i] := ⟨_, rfl⟩
    rw [← hx] at e1
    clear hx
    obtain ⟨xn, xa, xs, xb⟩ := x
    simp -dsimp [h0, h1', h12, h13, e1]
    exact ⟨i + 1, by omega, wrapS (by omega), by omega⟩
  · simp -dsimp
    exact tidy_now rfl ⟨rfl, rfl⟩
def IsBo (e : AE) : Prop := ∃ b, e = .ret (Bo b)
theorem long_ok (l : List Rg) (hl : l.length ≤ 2^40) (H : List Blk) : ACalls Tryz.prog 7 [Rg.sl l] H (fun e H' => IsBo e ∧ H' = H) := by
  refine acalls_tidy (acalls_of_vc (hn := fun _ => false) (od := fun _ => none) Tryz.func7 rfl (by kernel_rfl) ?_)
  simp -dsimp
  refine loop_rule (hn := fun _ => false) (od := fun _ => none) (fun (i : Nat) f H' => H = H' ∧ f 0 = Rg.sl l ∧ f 3 = I i ∧ i ≤ l.length) (fun i => l.length - i) (by kernel_rfl) 0 (by simp) ?_
  rintro i f _ ⟨rfl, h0, h3, hi⟩
  simp -dsimp [h0, h3]
  refine guardVW_introTD (fun hlt => ?_) (fun hlt => ?_)
  · have hlt' : i < l.length := by omega
    have e1 := List.getElem?_eq_getElem hlt'
    obtain ⟨x, hx⟩ : ∃ x, x = l[i] := ⟨_, rfl⟩
    rw [← hx] at e1
    clear hx
    obtain ⟨xn, xa, xs, xb⟩ := x
    simp -dsimp [h0, h3, hlt']
    refine condVW_introD (fun hl2 => ?_) (fun hl2 => ?_)
    · simp -dsimp [h0, h3, e1]
      refine condVW_introD (fun h9 => ?_) (fun h9 => ?_)
      · simp -dsimp
        exact tidy_now rfl ⟨⟨_, rfl⟩, rfl⟩
      · simp -dsimp [h0, h3]
        exact ⟨i + 1, by omega, wrapS (by omega), by omega⟩
    · simp -dsimp [h0, h3]
      exact tidy_now rfl ⟨⟨_, rfl⟩, rfl⟩
  · have dn : decide (i < l.length) = false := decide_eq_false (by omega)
    simp -dsimp [h0, h3, dn]
    exact tidy_now rfl ⟨⟨_, rfl⟩, rfl⟩
theorem sruns_ok (r : Ran) (h1 : r.rets.length ≤ 2^40) (h2 : r.seen.length ≤ 2^40) (H : List Blk) : ACalls Tryz.prog 16 [.agg r.cells, .agg r.cells] H (fun e H' => e = .ret (Bo true) ∧ H' = H) := by
  refine acalls_tidy (acalls_of_vc (hn := fun _ => false) (od := fun _ => none) Tryz.func16 rfl (by kernel_rfl) ?_)
  have cw := fun H => samew_ok r.rets h1 H
  have cs := fun H => sseen_ok r.seen h2 H
  simp -dsimp
  repeat' ((with_reducible first | refine And.intro ?_ ?_ | refine guardVW_introTD (fun _ => ?_) (fun _ => ?_) | refine guardVW_introFD (fun _ => ?_) (fun _ => ?_) | refine condVW_introD (fun _ => ?_) (fun _ => ?_) | refine guardVW_introTE (fun _ => ?_) (fun _ _ _ => ?_) | refine guardVW_introFE (fun _ => ?_) (fun _ _ _ => ?_) | refine condVW_introE (fun _ => ?_) (fun _ _ _ => ?_) | refine guardVW_introTNE (fun _ _ _ => ?_) (fun _ => ?_) | refine guardVW_introFNE (fun _ _ _ => ?_) (fun _ => ?_) | refine condVW_introNE (fun _ _ _ => ?_) (fun _ => ?_) | refine guardVW_introTB (fun _ => ?_) (fun _ => ?_) | refine guardVW_introFB (fun _ => ?_) (fun _ => ?_) | refine condVW_introB (fun _ => ?_) (fun _ => ?_) | refine guardVW_introT (fun _ => ?_) (fun _ => ?_) | refine guardVW_introF (fun _ => ?_) (fun _ => ?_) | refine condVW_intro (fun _ => ?_) (fun _ => ?_) | refine acallsW_det (cw _) ?_ | refine callDW_intro (cw _) ?_ | refine acallsW_det (cs _) ?_ | refine callDW_intro (cs _) ?_) <;> simp -dsimp [*])
  all_goals exact tidy_same rfl ⟨rfl, rfl⟩
theorem eqIs_self {P : Program} {eq : AV → AV → Option Bool} {l : List Int} (hq : ∀ x : Int, eq (Y x) (Y x) = some true) : ∀ (n i : Nat), i + n ≤ l.length → eqIs P eq 1 false (l.map Y) (l.map Y) i n = some true
  | 0, i, _ => rfl
  | n + 1, i, h => by
    have ih := eqIs_self (P := P) (eq := eq) (l := l) hq n (i + 1) (by omega)
    have hi : i < l.length := by omega
    have e : partA false 1 (i * 1) (l.map Y) = some (Y (l.getD i 0)) := by rw [partA_f, Nat.mul_one, List.getElem?_map, getD_at hi]; rfl
    unfold eqIs
    rw [e]
    simp only [hq, ih]
    rfl
theorem eqBig {b : List Int} (hb : b.length = 65536) : binE Tryz.prog .eql 111 (.agg (b.map Y)) (.agg (b.map Y)) = some (.v (.bool true)) := by
  have g : Tryz.prog.eqGuardType Tryz.prog.depth 111 = false := by kernel_rfl
  have u : Tryz.prog.underlying 111 = some (.array 65536 5) := by kernel_rfl
  have u2 : Tryz.prog.underlying 5 = some (.int .u8) := by kernel_rfl
  have s1 : szOf Tryz.prog 5 = some 1 := by kernel_rfl
  have s2 : aggOf Tryz.prog 5 = some false := by kernel_rfl
  have q : ∀ x : Int, eqA Tryz.prog 9999 5 (Y x) (Y x) = some true := fun x => by
    rw [show (9999 : Nat) = 9998 + 1 from rfl]
    unfold eqA
    rw [u2]
    simp
  unfold binE
  rw [g]
  simp only [Bool.false_eq_true, if_false]
  rw [show (10000 : Nat) = 9999 + 1 from rfl]
  unfold eqA
  rw [u]
  simp only [s1, s2]
  rw [eqIs_self q 65536 0 (by omega)]
  rfl
theorem msame_ok {M : List Blk} {k kb k2 kb2 : Nat} {lay : List Rg} {b : List Int} (m1 : MemAt M k kb lay b) (m2 : MemAt M k2 kb2 lay b) (hl : lay.length ≤ 2^40) : ACalls Tryz.prog 17 [.bp k 0, .bp k2 0] M (fun e M' => e = .ret (Bo true) ∧ M' = M) := by
  refine acalls_tidy (acalls_of_vc (hn := fun _ => false) (od := fun _ => none) Tryz.func17 rfl (by kernel_rfl) ?_)
  have t1 := mthere_ok m1
  have t2 := mthere_ok m2
  have ce := eqrg_ok lay hl M
  have g1 := m1.me
  have g2 := m2.me
  have g3 : M[kb]? = some (.box 111 (b.map Y)) := m1.bytes
  have g4 : M[kb2]? = some (.box 111 (b.map Y)) := m2.bytes
  have hb : (b.map Y).length = 65536 := by rw [List.length_map]; exact m1.len
  have ee := eqBig m1.len
  obtain ⟨B, hB⟩ : ∃ B, B = b.map Y := ⟨_, rfl⟩
  rw [← hB] at hb ee g3 g4
  clear hB
  rw [← List.take_of_length_le (i := 65536) (l := B) (by omega)] at ee
  simp -dsimp [g1, g2, g3, g4]
  repeat' ((with_reducible first | refine And.intro ?_ ?_ | refine guardVW_introTD (fun _ => ?_) (fun _ => ?_) | refine guardVW_introFD (fun _ => ?_) (fun _ => ?_) | refine condVW_introD (fun _ => ?_) (fun _ => ?_) | refine guardVW_introTE (fun _ => ?_) (fun _ _ _ => ?_) | refine guardVW_introFE (fun _ => ?_) (fun _ _ _ => ?_) | refine condVW_introE (fun _ => ?_) (fun _ _ _ => ?_) | refine guardVW_introTNE (fun _ _ _ => ?_) (fun _ => ?_) | refine guardVW_introFNE (fun _ _ _ => ?_) (fun _ => ?_) | refine condVW_introNE (fun _ _ _ => ?_) (fun _ => ?_) | refine guardVW_introTB (fun _ => ?_) (fun _ => ?_) | refine guardVW_introFB (fun _ => ?_) (fun _ => ?_) | refine condVW_introB (fun _ => ?_) (fun _ => ?_) | refine guardVW_introT (fun _ => ?_) (fun _ => ?_) | refine guardVW_introF (fun _ => ?_) (fun _ => ?_) | refine condVW_intro (fun _ => ?_) (fun _ => ?_) | refine acallsW_det (t1) ?_ | refine callDW_intro (t1) ?_ | refine acallsW_det (t2) ?_ | refine callDW_intro (t2) ?_ | refine acallsW_det (ce) ?_ | refine callDW_intro (ce) ?_) <;> simp -dsimp [g1, g2, g3, g4, hb, ee])
  all_goals exact tidy_now rfl ⟨rfl, rfl⟩
theorem lrunBad_ok (l : Linear) (hs : l.Sm) (args : List Int) (ha : args.length ≤ 2^40) (stk : Int) (hbad : args.length ≠ l.params.length ∨ stk.tmod 16 ≠ 0) (fuel : Nat) (hf : fuel ≤ 1000000)
    {H : List Blk} {k kb : Nat} {lay : List Rg} {b : List Int} (hm : MemAt H k kb lay b) :
    ACalls Tryz.prog 15 [.agg l.cells, Wo.sl args, .bp k 0, U stk, I fuel] H (fun e H' => e = .ret (.tup [.agg (Ran.mk [] [] 0 0 b).cells, I 2]) ∧ H' = H) := by
  refine acalls_weakE (acalls_tidy (acalls_of_awp Tryz.func15 rfl (by kernel_rfl) ?_))
  have hpl := hs.params
  have hrl := hs.rets
  have hcl := hs.code
  have mm : ∀ L, MemAt (H ++ L) k kb lay b := fun L => ⟨get_app_old hm.me _, get_app_old hm.bytes _, hm.len⟩
  have cl := fun H => linear_ok l (by omega) (by omega) (by omega) H
  simp only [Linear.cells] at cl
  obtain ⟨c0, hc0⟩ : ∃ c, c = l.ok := ⟨_, rfl⟩
  rw [← hc0] at cl
  have d3 : decide ((fuel : Int) < 0) = false := decide_eq_false (by omega)
  have d4 : decide ((1000000 : Int) < (fuel : Int)) = false := decide_eq_false (by omega)
  have d5 : decide (1000000 < fuel) = false := decide_eq_false (by omega)
  obtain ⟨c1, hc1⟩ : ∃ c, c = ((args.length : Int) != (l.params.length : Int)) := ⟨_, rfl⟩
  obtain ⟨c2, hc2⟩ : ∃ c, c = (stk.tmod 16 != 0) := ⟨_, rfl⟩
  have hor : c1 = false → c2 = true := fun h => by
    rcases hbad with h1 | h2
    · exact absurd (by rw [hc1] at h; exact Int.ofNat_inj.1 (by simpa using h)) h1
    · rw [hc2]; simp [h2]
  refine awp_cut runHn (fun _ => none) (fun f M => M = H ++ [liB l, .box 46 [nilS, nilS, I 0, I 0]] ∧ f 1 = Wo.sl args ∧ f 2 = .bp k 0 ∧ f 3 = U stk ∧ f 4 = I fuel ∧ f 5 = .bp H.length 0 ∧ f 10 = .bp (H.length + 1) 0 ∧ f 11 = I 0) (by kernel_rfl) ?_ ?_
  · simp -dsimp
  rintro f M ⟨rfl, f1, f2, f3, f4, f5, f10, f11⟩
  refine awp_scope_jumpR 0 (fun _ _ _ _ => False) rfl ?_ ?_
  · intro m f M ds h
    exact h.elim
  intro body
  refine awp_cut runHn (fun _ => none) (fun _ _ => False) (by kernel_rfl) ?_ ?_
  · have cs := mstack_ok (mm [liB l, .box 46 [nilS, nilS, I 0, I 0]])
    have cl := cl (H ++ [liB l, .box 46 [nilS, nilS, I 0, I 0]])
    have fin : ∀ L, Tidy H (WeakE fun e H' => e = .ret (.tup [.agg (Ran.mk [] [] 0 0 b).cells, I 2]) ∧ H' = H) (.ret (.tup [.agg [nilS, nilS, I 0, I 0], I 2])) (H ++ L) := fun L => tidy_same rfl (tidy_weak (Weak.tupL (.cons (.aggL (.cons (.nil 1) (.cons (.nil 3) (.refl _)))) (.refl _))) ⟨rfl, rfl⟩)
    simp -dsimp [f1, f2, f3, f4, f5, f10, f11]
    refine acallsW_det cl ?_
    cases c0
    · simp -dsimp [f1, f2, f3, f4, f5, f10, f11]
      exact fin _
    cases c1
    · have e2 := hor rfl
      subst e2
      simp -dsimp [f1, f2, f3, f4, f5, f10, f11, ← hc1]
      refine acallsW_of cs ?_
      rintro e _ ⟨⟨es, rfl, hel⟩, rfl⟩
      have d6 : ((es.length : Int) == 0) = false := by rw [hel]; decide
      simp -dsimp [f1, f2, f3, f4, f5, f10, f11, d3, d4, d5, d6, ← hc2]
      exact fin _
    · simp -dsimp [f1, f2, f3, f4, f5, f10, f11, ← hc1]
      exact fin _
  · rintro f M h
    exact h.elim
end Go.Proofs
