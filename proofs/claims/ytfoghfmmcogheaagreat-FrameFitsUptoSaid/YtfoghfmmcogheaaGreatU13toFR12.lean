/- The document's layer 7: what a program uses. -/
import Derived.Test.YtfoghfmmcogheaaGreatFwVtoFR3
import Derived.Test.YtfoghfmmcogheaaGreatFR9
import Derived.Test.YtfoghfmmcogheaaGreatG28toL5
set_option linter.unusedVariables false
set_option linter.unusedSimpArgs false
set_option maxHeartbeats 4000000
set_option maxRecDepth 100000
namespace Go.Proofs
open Go.Mu
theorem ruses_ok (kd : Int) (m : Nat) : ∀ (l : List Sm), smsCount l < m → smsCount l ≤ 2^40 → ∀ (H : List Blk), ACalls Tryz.prog 34 [Sm.sl l, I kd] H (fun e H' => e = .ret (Bo (smsUses kd l)) ∧ H' = H) := by
  induction m with
  | zero => intro l h; omega
  | succ m ih =>
    intro l hm hc H
    refine acalls_tidy (acalls_of_vc (hn := fun _ => false) (od := fun _ => none) Tryz.func34 rfl (by kernel_rfl) ?_)
    have hlen := sms_len l
    obtain ⟨E, hE⟩ : ∃ E, E = smsUses kd l := ⟨_, rfl⟩
    rw [← hE]
    have fin : ∀ b, b = E → Tidy H (fun e H' => e = .ret (Bo E) ∧ H' = H) (.ret (Bo b)) H := fun b h => by rw [h]; exact tidy_now rfl ⟨rfl, rfl⟩
    simp -dsimp
    refine loop_rule (hn := fun _ => false) (od := fun _ => none) (fun (i : Nat) f H' => H = H' ∧ f 0 = Sm.sl l ∧ f 1 = I kd ∧ f 5 = I i ∧ i ≤ l.length ∧ E = smsUses kd (l.drop i)) (fun i => l.length - i) (by kernel_rfl) 0 (by simp; exact hE) ?_
    clear hE
    rintro i f _ ⟨rfl, f0, f1, f5, hi, hinv⟩
    replace hinv := Hid.mk hinv
    simp -dsimp [f0, f1, f5]
    refine condVW_introD (fun hlt => ?_) (fun hlt => ?_)
    · replace hinv := hinv.out
      rw [drop_cons hlt, smsUses, Sm.uses_eq] at hinv
      have hlx := List.getElem?_eq_getElem hlt
      have hgx := sms_get hlt
      obtain ⟨x, hx⟩ : ∃ x, x = l[i] := ⟨_, rfl⟩
      rw [← hx] at hinv hlx hgx
      clear hx
      have hcx := Sm.count_eq x
      have c1 := fun H => ih x.body (by omega) (by omega) H
      have c2 := fun H => ih x.els (by omega) (by omega) H
      obtain ⟨b1, hb1⟩ : ∃ b1, b1 = smsUses kd x.body := ⟨_, rfl⟩
      obtain ⟨b2, hb2⟩ : ∃ b2, b2 = smsUses kd x.els := ⟨_, rfl⟩
      rw [← hb1] at c1 hinv
      rw [← hb2] at c2 hinv
      replace hinv := Hid.mk hinv
      by_cases hk : x.kind = kd
      · simp -dsimp [f0, f1, f5, hlx, hk]
        exact fin _ (by rw [hinv.out]; simp [hk])
      · have hkb : (x.kind == kd) = false := by simpa using hk
        simp -dsimp [f0, f1, f5, hlx, hkb]
        refine acallsW_det (c1 _) ?_
        cases b1
        · simp -dsimp [f0, f1, f5, hlx, hkb]
          refine acallsW_det (c2 _) ?_
          cases b2
          · simp -dsimp [f0, f1, f5]
            exact ⟨i + 1, by omega, wrapS (by omega), by omega, by rw [hinv.out, hkb]; rfl⟩
          · simp -dsimp
            exact fin _ (by rw [hinv.out, hkb]; rfl)
        · simp -dsimp
          exact fin _ (by rw [hinv.out, hkb]; rfl)
    · replace hinv := hinv.out
      rw [drop_end hlt, smsUses] at hinv
      simp -dsimp
      exact fin _ hinv.symm
def FormK2 (M : Bool → Bool → Bool → Bool → List Blk → List Blk) (a b C D ra rs : Bool) (L : List Blk) (l : List Vr) (H' : List Blk) : Prop := ∃ c d, H' = M a b c d L ∧ (c || (vrsUse 2 l || ra)) = C ∧ (d || (vrsUse 3 l || rs)) = D
theorem rform_ok (p : Pg) (hc : ∀ f ∈ p.funcs, smsCount f.body ≤ 2^40) (hv : ∀ f ∈ p.funcs, f.vars.length ≤ 2^40) (hfl : p.funcs.length ≤ 2^40) (hrl : p.regions.length ≤ 2^40) (H : List Blk) : ACalls Tryz.prog 19 [.agg p.cells] H (fun e H' => e = .ret (.agg (formT p).cells) ∧ H' = H) := by
  refine acalls_tidy (acalls_of_awp Tryz.func19 rfl (by kernel_rfl) ?_)
  obtain ⟨bP, hbP⟩ : ∃ bP, bP = Blk.box 25 [Rg.sl p.regions, Fc.sl p.funcs] := ⟨_, rfl⟩
  obtain ⟨z, hz⟩ : ∃ z, z = formB false false false false := ⟨_, rfl⟩
  refine awp_cut (fun _ => false) (fun _ => none) (fun f H' => H' = H ++ [bP, z] ∧ f 1 = .bp H.length 0 ∧ f 2 = .bp (H.length + 1) 0) (by kernel_rfl) ?_ ?_
  · rw [hbP, hz]
    simp -dsimp
  rintro g _ ⟨rfl, g1, g2⟩
  obtain ⟨b1, hb1⟩ : ∃ b1, b1 = decide (1 < p.funcs.length) := ⟨_, rfl⟩
  obtain ⟨b4, hb4⟩ : ∃ b4, b4 = decide (0 < p.regions.length) := ⟨_, rfl⟩
  have e1 : decide ((1 : Int) < p.funcs.length) = b1 := by rw [hb1]; by_cases h : 1 < p.funcs.length <;> simp [h] <;> omega
  have e4 : decide ((0 : Int) < p.regions.length) = b4 := by rw [hb4]; by_cases h : 0 < p.regions.length <;> simp [h] <;> omega
  obtain ⟨M, hM⟩ : ∃ M : Bool → Bool → Bool → Bool → List Blk → List Blk, M = fun a b c d L => H ++ bP :: z :: formB a b c d :: L := ⟨_, rfl⟩
  have hMe : ∀ a b c d L, M a b c d L = H ++ bP :: z :: formB a b c d :: L := fun a b c d L => by rw [hM]
  have m0 : ∀ a b c d L, (M a b c d L)[H.length]? = some (.box 25 [Rg.sl p.regions, Fc.sl p.funcs]) := fun a b c d L => by rw [hMe, ← hbP]; simp
  have m1 : ∀ a b c d L, (M a b c d L)[H.length + 1]? = some (formB false false false false) := fun a b c d L => by rw [hMe, hz]; simp
  have m2 : ∀ a b c d L, (M a b c d L)[H.length + 2]? = some (formB a b c d) := fun a b c d L => by rw [hMe]; simp
  have ms : ∀ a b c d a' b' c' d' L, (M a b c d L).set (H.length + 2) (formB a' b' c' d') = M a' b' c' d' L := fun a b c d a' b' c' d' L => by rw [hMe, hMe]; simp
  clear hM
  have hg0 : (H ++ [bP, z])[H.length]? = some (.box 25 [Rg.sl p.regions, Fc.sl p.funcs]) := by rw [← hbP]; simp
  obtain ⟨V, hV⟩ : ∃ V, V = H ++ [bP, z] := ⟨_, rfl⟩
  have hVl : V.length = H.length + 2 := by rw [hV]; simp
  have hVM : ∀ a b c d, V ++ [formB a b c d] = M a b c d [] := fun a b c d => by rw [hMe, hV]; simp
  rw [← hV] at hg0 ⊢
  refine awp_cut (fun _ => false) (fun _ => none) (fun f H' => H' = M b1 false false b4 [] ∧ f 1 = .bp H.length 0 ∧ f 2 = .bp (H.length + 1) 0 ∧ f 3 = .bp V.length 0) (by kernel_rfl) ?_ ?_
  · simp -dsimp [g1, g2, hg0, e1, e4, hb4.symm, hb1.symm]
    exact hVM _ _ _ _
  clear g g1 g2
  rw [hVl]
  rintro g _ ⟨rfl, g1, g2, g3⟩
  clear hV hVl hVM hg0 V
  refine awp_cutA (fun f H' => FormJ M (formT p) [] H' ∧ f 2 = .bp (H.length + 1) 0 ∧ f 3 = .bp (H.length + 2) 0) ?_ ?_
  rotate_left
  · clear g g1 g2 g3
    rintro g _ ⟨⟨a, b, c, d, L, rfl, h1, h2, h3, h4⟩, g2, g3⟩
    simp only [fcsUse, fcsVar, Bool.or_false] at h1 h2 h3 h4
    refine awp_all (fun _ => false) (fun _ => none) (by kernel_rfl) ?_
    have q1 : ∀ X, ((M a b c d L).set (H.length + 1) X)[H.length + 1]? = some X := fun X => by rw [List.getElem?_set_self (by rw [hMe]; simp)]
    have q2 : ∀ X, (M a b c d L).set (H.length + 1) X = H ++ bP :: X :: formB a b c d :: L := fun X => by rw [hMe]; simp
    simp -dsimp [g2, g3, m2, m1, q1]
    rw [q2, h1, h2, h3, h4]
    exact tidy_same rfl ⟨rfl, rfl⟩
  refine awp_cut (fun _ => false) (fun _ => none) (fun f H' => H' = M b1 false false b4 [] ∧ f 1 = .bp H.length 0 ∧ f 2 = .bp (H.length + 1) 0 ∧ f 3 = .bp (H.length + 2) 0 ∧ f 4 = I 0) (by kernel_rfl) ?_ ?_
  · simp -dsimp [g1, g2, g3]
  clear g g1 g2 g3
  rintro g _ ⟨rfl, g1, g2, g3, g4⟩
  refine awp_block ?_
  refine awp_loopI (fun (i : Nat) f H' => FormJ M (formT p) (p.funcs.drop i) H' ∧ f 1 = .bp H.length 0 ∧ f 2 = .bp (H.length + 1) 0 ∧ f 3 = .bp (H.length + 2) 0 ∧ f 4 = I i ∧ i ≤ p.funcs.length) (fun i => p.funcs.length - i) 0
    ⟨⟨b1, false, false, b4, [], rfl, by rw [hb1]; rfl, rfl, rfl, by rw [hb4]; rfl⟩, g1, g2, g3, g4, by omega⟩ ?_
  clear g g1 g2 g3 g4
  rintro i g _ ⟨⟨a, b, c, d, L, rfl, h1, h2, h3, h4⟩, g1, g2, g3, g4, hi⟩
  refine awp_cut (fun _ => false) (fun _ => none) (fun f H' => H' = M a b c d L ∧ f 1 = .bp H.length 0 ∧ f 2 = .bp (H.length + 1) 0 ∧ f 3 = .bp (H.length + 2) 0 ∧ f 4 = I i ∧ i < p.funcs.length) (by kernel_rfl) ?_ ?_
  · simp -dsimp [g1, g2, g3, g4, m0]
    refine condVW_introD (fun hlt => ?_) (fun hlt => ?_)
    · simp -dsimp [g1, g2, g3, g4]
      omega
    · rw [drop_end hlt] at h1 h2 h3 h4
      simp -dsimp [g2, g3]
      exact ⟨a, b, c, d, L, rfl, h1, h2, h3, h4⟩
  clear g g1 g2 g3 g4
  rintro g _ ⟨rfl, g1, g2, g3, g4, hlt⟩
  have hlx : p.funcs[i]? = some p.funcs[i] := List.getElem?_eq_getElem hlt
  have hmx := List.getElem_mem hlt
  rw [drop_cons hlt] at h1 h2 h3 h4
  obtain ⟨x, hx⟩ : ∃ x, x = p.funcs[i] := ⟨_, rfl⟩
  rw [← hx] at hlx hmx h1 h2 h3 h4
  clear hx
  have hxc := hc x hmx
  have hxv := hv x hmx
  rw [fcsUse] at h1 h2
  rw [fcsVar] at h3 h4
  have w1 : IntKind.i64.wrap ((i : Int) + 1) = ((i + 1 : Nat) : Int) := wrapS (by omega)
  refine awp_cutA (fun f H' => FormJ M (formT p) (p.funcs.drop (i + 1)) H' ∧ f 1 = .bp H.length 0 ∧ f 2 = .bp (H.length + 1) 0 ∧ f 3 = .bp (H.length + 2) 0 ∧ f 4 = I i) ?_ ?_
  rotate_left
  · clear g g1 g2 g3 g4
    rintro g H' ⟨ho, g1, g2, g3, g4⟩
    replace ho := Hid.mk ho
    refine awp_all (fun _ => false) (fun _ => none) (by kernel_rfl) ?_
    simp -dsimp [g1, g2, g3, g4]
    exact ⟨i + 1, by omega, ho.out, w1, by omega⟩
  refine awp_block ?_
  have c6 := fun H => ruses_ok 6 _ x.body (Nat.lt_succ_self _) hxc H
  have c5 := fun H => ruses_ok 5 _ x.body (Nat.lt_succ_self _) hxc H
  refine awp_cut (fun _ => false) (fun _ => none) (fun f H' => H' = M (a || smsUses 6 x.body) b c d L ∧ f 1 = .bp H.length 0 ∧ f 2 = .bp (H.length + 1) 0 ∧ f 3 = .bp (H.length + 2) 0 ∧ f 4 = I i) (by kernel_rfl) ?_ ?_
  · clear h1 h2 h3 h4
    cases a
    · simp -dsimp [g1, g2, g3, g4, m0, m2, ms, hlx]
      refine acallsW_det (c6 _) ?_
      simp -dsimp [g1, g2, g3, g4, m2, ms]
    · simp -dsimp [g1, g2, g3, g4, m2, ms]
  clear g g1 g2 g3 g4
  rintro g _ ⟨rfl, g1, g2, g3, g4⟩
  obtain ⟨a2, ha2⟩ : ∃ a2, a2 = (a || smsUses 6 x.body) := ⟨_, rfl⟩
  rw [← ha2]
  refine awp_cut (fun _ => false) (fun _ => none) (fun f H' => H' = M a2 (b || smsUses 5 x.body) c d L ∧ f 1 = .bp H.length 0 ∧ f 2 = .bp (H.length + 1) 0 ∧ f 3 = .bp (H.length + 2) 0 ∧ f 4 = I i) (by kernel_rfl) ?_ ?_
  · clear h1 h2 h3 h4
    cases b
    · simp -dsimp [g1, g2, g3, g4, m0, m2, ms, hlx]
      refine acallsW_det (c5 _) ?_
      simp -dsimp [g1, g2, g3, g4, m2, ms]
    · simp -dsimp [g1, g2, g3, g4, m2, ms]
  clear g g1 g2 g3 g4
  rintro g _ ⟨rfl, g1, g2, g3, g4⟩
  obtain ⟨b2, hb2⟩ : ∃ b2, b2 = (b || smsUses 5 x.body) := ⟨_, rfl⟩
  rw [← hb2]
  have h1' : (a2 || fcsUse 6 (p.funcs.drop (i + 1))) = (formT p).calls := by rw [← h1, ha2]; simp only [Bool.or_assoc]
  have h2' : (b2 || fcsUse 5 (p.funcs.drop (i + 1))) = (formT p).fors := by rw [← h2, hb2]; simp only [Bool.or_assoc]
  clear h1 h2 ha2 hb2
  obtain ⟨T, hT⟩ : ∃ T, T = formT p := ⟨_, rfl⟩
  rw [← hT] at h1' h2' h3 h4 ⊢
  clear hT
  obtain ⟨r2, hr2⟩ : ∃ r, r = fcsVar 2 (p.funcs.drop (i + 1)) := ⟨_, rfl⟩
  obtain ⟨r3, hr3⟩ : ∃ r, r = fcsVar 3 (p.funcs.drop (i + 1)) := ⟨_, rfl⟩
  rw [← hr2] at h3
  rw [← hr3] at h4
  refine awp_cut (fun _ => false) (fun _ => none) (fun f H' => H' = M a2 b2 c d L ∧ f 1 = .bp H.length 0 ∧ f 2 = .bp (H.length + 1) 0 ∧ f 3 = .bp (H.length + 2) 0 ∧ f 4 = I i ∧ f 5 = I 0) (by kernel_rfl) ?_ ?_
  · simp -dsimp [g1, g2, g3, g4]
  clear g g1 g2 g3 g4
  rintro g _ ⟨rfl, g1, g2, g3, g4, g5⟩
  refine awp_block ?_
  refine awp_loopI (fun (j : Nat) f H' => FormK2 M a2 b2 T.arrays T.stack r2 r3 L (x.vars.drop j) H' ∧ f 1 = .bp H.length 0 ∧ f 2 = .bp (H.length + 1) 0 ∧ f 3 = .bp (H.length + 2) 0 ∧ f 4 = I i ∧ f 5 = I j ∧ j ≤ x.vars.length) (fun j => x.vars.length - j) 0
    ⟨⟨c, d, rfl, h3, h4⟩, g1, g2, g3, g4, g5, by omega⟩ ?_
  clear g g1 g2 g3 g4 g5 h3 h4 c d
  rintro j g _ ⟨⟨c, d, rfl, h3, h4⟩, g1, g2, g3, g4, g5, hj⟩
  refine awp_cut (fun _ => false) (fun _ => none) (fun f H' => H' = M a2 b2 c d L ∧ f 1 = .bp H.length 0 ∧ f 2 = .bp (H.length + 1) 0 ∧ f 3 = .bp (H.length + 2) 0 ∧ f 4 = I i ∧ f 5 = I j ∧ j < x.vars.length) (by kernel_rfl) ?_ ?_
  · simp -dsimp [g1, g2, g3, g4, g5, m0, hlx]
    refine condVW_introD (fun hlt2 => ?_) (fun hlt2 => ?_)
    · simp -dsimp [g1, g2, g3, g4, g5]
      omega
    · rw [drop_end hlt2, vrsUse, Bool.false_or] at h3 h4
      simp -dsimp [g1, g2, g3, g4]
      exact ⟨a2, b2, c, d, L, rfl, h1', h2', by rw [h3.symm, hr2], by rw [h4.symm, hr3]⟩
  clear g g1 g2 g3 g4 g5
  rintro g _ ⟨rfl, g1, g2, g3, g4, g5, hlt2⟩
  have hly : x.vars[j]? = some x.vars[j] := List.getElem?_eq_getElem hlt2
  rw [drop_cons hlt2, vrsUse] at h3 h4
  obtain ⟨y, hy⟩ : ∃ y, y = x.vars[j] := ⟨_, rfl⟩
  rw [← hy] at hly h3 h4
  clear hy
  have w2 : IntKind.i64.wrap ((j : Int) + 1) = ((j + 1 : Nat) : Int) := wrapS (by omega)
  refine awp_cutA (fun f H' => FormK2 M a2 b2 T.arrays T.stack r2 r3 L (x.vars.drop (j + 1)) H' ∧ f 1 = .bp H.length 0 ∧ f 2 = .bp (H.length + 1) 0 ∧ f 3 = .bp (H.length + 2) 0 ∧ f 4 = I i ∧ f 5 = I j) ?_ ?_
  rotate_left
  · clear g g1 g2 g3 g4 g5
    rintro g H' ⟨ho, g1, g2, g3, g4, g5⟩
    replace ho := Hid.mk ho
    refine awp_all (fun _ => false) (fun _ => none) (by kernel_rfl) ?_
    simp -dsimp [g1, g2, g3, g4, g5]
    exact ⟨j + 1, by omega, ho.out, w2, by omega⟩
  refine awp_block ?_
  refine awp_cut (fun _ => false) (fun _ => none) (fun f H' => H' = M a2 b2 (c || y.kind == 2) d L ∧ f 1 = .bp H.length 0 ∧ f 2 = .bp (H.length + 1) 0 ∧ f 3 = .bp (H.length + 2) 0 ∧ f 4 = I i ∧ f 5 = I j) (by kernel_rfl) ?_ ?_
  · clear h3 h4 h1' h2'
    cases c <;> simp -dsimp [g1, g2, g3, g4, g5, m0, m2, ms, hlx, hly]
  clear g g1 g2 g3 g4 g5
  rintro g _ ⟨rfl, g1, g2, g3, g4, g5⟩
  have hdone : FormK2 M a2 b2 T.arrays T.stack r2 r3 L (x.vars.drop (j + 1)) (M a2 b2 (c || y.kind == 2) (d || y.kind == 3) L) := ⟨_, _, rfl, by rw [← h3]; simp only [Bool.or_assoc], by rw [← h4]; simp only [Bool.or_assoc]⟩
  obtain ⟨c2, hc2⟩ : ∃ c2, c2 = (c || y.kind == 2) := ⟨_, rfl⟩
  rw [← hc2] at hdone ⊢
  clear h3 h4 h1' h2' hc2
  replace hdone := Hid.mk hdone
  refine awp_all (fun _ => false) (fun _ => none) (by kernel_rfl) ?_
  cases d
  · simp -dsimp [g1, g2, g3, g4, g5, m0, m2, ms, hlx, hly]
    have := hdone.out
    rwa [Bool.false_or] at this
  · simp -dsimp [g1, g2, g3, g4, g5, m0, m2, ms, hlx, hly]
    have := hdone.out
    rwa [Bool.true_or] at this
end Go.Proofs
namespace Go.Proofs
open Go.Mu
theorem ask_ok (p : Pg) (hp : p.OkF) (h3 : p.Ok3) (H : List Blk) : ACalls Tryz.prog 8 [.agg p.cells] H (fun e H' => e = .ret (I (whyF p)) ∧ H' = H) := by
  refine acalls_tidy (acalls_of_vc (hn := fun _ => false) (od := fun _ => none) Tryz.func8 rfl (by kernel_rfl) ?_)
  have cm := fun H => rmay_ok p h3 H
  have cf := fun H => rform_ok p (fun f hf => by have := hp.body f hf; omega) (fun f hf => by have := hp.vars f hf; omega) (by have := hp.funcs; omega) (by have := hp.regions; omega) H
  simp only [Pg.cells] at cm cf
  simp -dsimp
  refine acallsW_det (cm _) ?_
  simp -dsimp
  refine condVW_introNE (fun h1 h1a h1b => ?_) (fun h1 => ?_)
  · simp -dsimp
    exact tidy_same rfl ⟨by rw [whyF, if_pos h1], rfl⟩
  · have hw : whyF p = if ((formT p).calls || (formT p).fors || (formT p).arrays) = true then 9 else 0 := by rw [whyF, if_neg (by simpa using h1)]
    rw [hw]
    obtain ⟨ca, fo, ar, st, hT⟩ : ∃ a b c d, (⟨a, b, c, d⟩ : Fo) = formT p := ⟨_, _, _, _, rfl⟩
    rw [← hT] at cf
    rw [← hT]
    simp only [Fo.cells] at cf ⊢
    simp -dsimp
    refine acallsW_det (cf _) ?_
    cases ca
    · cases fo
      · cases ar
        · simp -dsimp
          exact tidy_same rfl ⟨rfl, rfl⟩
        · simp -dsimp
          exact tidy_same rfl ⟨rfl, rfl⟩
      · simp -dsimp
        exact tidy_same rfl ⟨rfl, rfl⟩
    · simp -dsimp
      exact tidy_same rfl ⟨rfl, rfl⟩
def likeP (x : Pl) (v : Vr) : Bool := decide (v.name = x.name) && (v.size == x.size)
theorem placeB_eq (a : List Vr) (S : Int) (x : Pl) : placeB a S x = (a.any (likeP x) && decide (0 ≤ x.at_) && decide (x.at_ ≤ 8192) && decide (x.at_ % 8 = 0) && decide (x.at_ + 8 * x.size ≤ S)) := by
  unfold placeB likeP
  simp only [ba_eqb]
theorem apartB_eq (x y : Pl) : apartB x y = (!decide (y.name = x.name) && !(decide (x.at_ < y.at_ + 8 * y.size) && decide (y.at_ < x.at_ + 8 * x.size))) := by
  unfold apartB
  simp only [ba_eqb]
def hasP (x : Pl) (l : List Vr) : Bool := l.any (likeP x)
def allP (x : Pl) (l : List Pl) : Bool := l.all (apartB x)
theorem lfits_ok (p : Pg) (hp : p.OkF) (h3 : p.Ok3) (l : Ly) (hl : l.places.length ≤ 2^36) (H : List Blk) : ACalls Tryz.prog 11 [.agg p.cells, .agg l.cells] H (fun e H' => e = .ret (Bo (fitB p l)) ∧ H' = H) := by
  refine acalls_tidy (acalls_of_vc (hn := fun _ => false) (od := fun _ => none) Tryz.func11 rfl (by kernel_rfl) ?_)
  have fin : ∀ b L, b = fitB p l → Tidy H (fun e H' => e = .ret (Bo (fitB p l)) ∧ H' = H) (.ret (Bo b)) (H ++ L) := fun b L h => by rw [h]; exact tidy_same rfl ⟨rfl, rfl⟩
  have cm := fun H => ask_ok p hp h3 H
  simp only [Pg.cells] at cm
  obtain ⟨bP, hbP⟩ : ∃ bP, bP = Blk.box 25 [Rg.sl p.regions, Fc.sl p.funcs] := ⟨_, rfl⟩
  obtain ⟨bL, hbL⟩ : ∃ bL, bL = Blk.box 30 [Pl.sl l.places, I l.size] := ⟨_, rfl⟩
  obtain ⟨V, hV⟩ : ∃ V : List Blk → List Blk, V = fun L => H ++ bP :: bL :: L := ⟨_, rfl⟩
  have hVe : ∀ L, V L = H ++ bP :: bL :: L := fun L => by rw [hV]
  have vA : ∀ L R, V L ++ R = V (L ++ R) := fun L R => by rw [hVe, hVe]; simp
  have vL : ∀ L, (V L).length = H.length + 2 + L.length := fun L => by rw [hVe]; simp; omega
  have v0 : ∀ L, (V L)[H.length]? = some (.box 25 [Rg.sl p.regions, Fc.sl p.funcs]) := fun L => by rw [hVe, ← hbP]; simp
  have v1 : ∀ L, (V L)[H.length + 1]? = some (.box 30 [Pl.sl l.places, I l.size]) := fun L => by rw [hVe, ← hbL]; simp
  have vN : ∀ L X, (V (L ++ [X]))[(V L).length]? = some X := fun L X => by rw [← vA]; simp
  have vS : ∀ L X Y, (V (L ++ [X])).set (V L).length Y = V (L ++ [Y]) := fun L X Y => by rw [← vA, ← vA]; simp
  have g0' : H ++ [bP, bL] = V [] := by rw [hVe]
  have hfin : ∀ b L, b = fitB p l → Tidy H (fun e H' => e = .ret (Bo (fitB p l)) ∧ H' = H) (.ret (Bo b)) (V L) := fun b L h => by rw [hVe]; exact fin b _ h
  clear hV
  simp -dsimp
  rw [← hbP, ← hbL, g0']
  refine acallsW_det (cm _) ?_
  simp -dsimp
  refine guardVW_introFNE (fun h1 h1a h1b => ?_) (fun h1 => ?_)
  · simp -dsimp [h1b]
    refine hfin _ _ ?_
    simp [fitB, h1]
  have h1b : (whyF p != 0) = false := by simp [h1]
  simp -dsimp [v1, h1b]
  refine guardVW_introFD (fun h2 => ?_) (fun h2 => ?_)
  · simp -dsimp [h2]
    refine hfin _ _ ?_
    have : ¬ 0 ≤ l.size := by omega
    simp [fitB, sizeOkB, this]
  simp -dsimp [v1, h2]
  refine guardVW_introFD (fun h3 => ?_) (fun h3 => ?_)
  · simp -dsimp [h3]
    refine hfin _ _ ?_
    have : ¬ l.size ≤ 8192 := by omega
    simp [fitB, sizeOkB, this]
  simp -dsimp [v1, h3]
  have hmod : l.size.tmod 16 = l.size % 16 := Int.tmod_eq_emod_of_nonneg (by omega)
  rw [hmod]
  refine condVW_introNE (fun h4 _ _ => ?_) (fun h4 => ?_)
  · simp -dsimp
    refine hfin _ _ ?_
    simp [fitB, sizeOkB, h4]
  have hS : sizeOkB l.size = true := by
    unfold sizeOkB
    simp only [Bool.and_eq_true, decide_eq_true_eq]
    omega
  obtain ⟨F, hF⟩ := may_arr (why_may h1)
  have hFv := hp.vars F (List.mem_of_getElem? hF.fn)
  have ca := fun H => larr_ok p F hF.fn hFv H
  simp only [Pg.cells] at ca
  have hfb : fitB p l = (decide ((arrV p).length = l.places.length) && placesB (arrV p) l.size [] l.places) := by
    unfold fitB
    rw [hS, decide_eq_true h1]; simp
  rw [hF.arr] at hfb
  obtain ⟨A, hA⟩ : ∃ A, A = stkV F.vars := ⟨_, rfl⟩
  have hAl := hF.len
  have hAs := hF.sz
  rw [← hA] at hfb hAl hAs ca
  simp -dsimp [v0]
  refine acallsW_det (ca _) ?_
  simp -dsimp [v1]
  refine condVW_introNE (fun h5 _ _ => ?_) (fun h5 => ?_)
  · simp -dsimp
    refine hfin _ _ ?_
    rw [hfb, decide_eq_false (by omega), Bool.false_and]
  have h5' : A.length = l.places.length := by omega
  rw [decide_eq_true h5', Bool.true_and] at hfb
  simp -dsimp
  refine loop_rule (hn := fun _ => false) (od := fun _ => none) (fun (x : Nat × List Blk) f H' => H' = V x.2 ∧ f 3 = .bp (H.length + 1) 0 ∧ f 5 = Vr.sl A ∧ f 6 = I x.1 ∧ x.1 ≤ l.places.length ∧ (∀ y ∈ l.places.take x.1, 0 ≤ y.at_ ∧ y.at_ ≤ 8192 ∧ 1 ≤ y.size ∧ y.size ≤ 512) ∧ placesB A l.size (l.places.take x.1) (l.places.drop x.1) = fitB p l)
    (fun x => l.places.length - x.1) (by kernel_rfl) (0, []) ⟨rfl, by simp, by simp, by simp, by simp, by simp, by simp [hfb]⟩ ?_
  rintro ⟨i, L⟩ f _ ⟨rfl, f3, f5, f6, hi, hys, hrow⟩
  simp only at f6 hi hys hrow
  simp -dsimp [f3, f5, f6, v1]
  refine condVW_introD (fun hlt => ?_) (fun hlt => ?_)
  · have hlt' : i < l.places.length := by omega
    have hx := List.getElem?_eq_getElem hlt'
    have ht : l.places.take (i + 1) = l.places.take i ++ [l.places[i]] := List.take_succ_eq_append_getElem hlt'
    have hd : l.places.drop i = l.places[i] :: l.places.drop (i + 1) := List.drop_eq_getElem_cons hlt'
    obtain ⟨x, hxe⟩ : ∃ x, x = l.places[i] := ⟨_, rfl⟩
    rw [← hxe] at hx ht hd
    rw [hd, placesB] at hrow
    have w1 : IntKind.i64.wrap ((i : Int) + 1) = ((i + 1 : Nat) : Int) := wrapS (by omega)
    have hkx : (V (L ++ [Blk.box 41 [St x.name, I x.at_, I x.size]]))[(V L).length]? = some (Blk.box 41 [St x.name, I x.at_, I x.size]) := vN _ _
    simp -dsimp [f3, f5, f6, v1, hx, vA, vN, vS]
    refine loop_rule (hn := fun _ => false) (od := fun _ => none) (fun (k : Nat) f H' => H' = V (L ++ [Blk.box 41 [St x.name, I x.at_, I x.size]]) ∧ f 3 = .bp (H.length + 1) 0 ∧ f 5 = Vr.sl A ∧ f 6 = I i ∧ f 7 = .bp (V L).length 0 ∧ f 8 = Bo (hasP x (A.take k)) ∧ f 9 = I k ∧ k ≤ A.length)
      (fun k => A.length - k) (by kernel_rfl) 0 ⟨rfl, by simp [f3], by simp [f5], by simp [f6], by simp, by simp [hasP], by simp, by simp⟩ ?_
    clear f3 f5 f6
    rintro k f _ ⟨rfl, f3, f5, f6, f7, f8, f9, hk⟩
    obtain ⟨b, hb⟩ : ∃ b, b = hasP x (A.take k) := ⟨_, rfl⟩
    rw [← hb] at f8
    simp -dsimp [f3, f5, f6, f7, f8, f9]
    refine condVW_introD (fun hlk => ?_) (fun hlk => ?_)
    · have hlk' : k < A.length := by omega
      have hv := List.getElem?_eq_getElem hlk'
      have htk : A.take (k + 1) = A.take k ++ [A[k]] := List.take_succ_eq_append_getElem hlk'
      obtain ⟨v, hve⟩ : ∃ v, v = A[k] := ⟨_, rfl⟩
      rw [← hve] at hv htk
      have hb' : hasP x (A.take (k + 1)) = (b || likeP x v) := by rw [htk, hb, hasP, hasP, List.any_append]; simp
      have wk : IntKind.i64.wrap ((k : Int) + 1) = ((k + 1 : Nat) : Int) := wrapS (by omega)
      cases b
      · simp -dsimp [f3, f5, f6, f7, f8, f9, hv, hkx]
        refine guardVW_introTD (fun q1 => ?_) (fun q1 => ?_)
        · simp -dsimp [f3, f5, f6, f7, f8, f9, hv, hkx, q1]
          exact ⟨k + 1, by omega, by rw [hb', likeP, q1]; simp, wk, by omega⟩
        · simp -dsimp [f3, f5, f6, f7, f8, f9, hv, hkx, q1]
          exact ⟨k + 1, by omega, by rw [hb', likeP, decide_eq_false q1]; simp, wk, by omega⟩
      · simp -dsimp [f3, f5, f6, f7, f8, f9]
        exact ⟨k + 1, by omega, by rw [hb']; rfl, wk, by omega⟩
    · have : A.take k = A := List.take_of_length_le (by omega)
      rw [this] at hb
      have hpB := placeB_eq A l.size x
      rw [show A.any (likeP x) = hasP x A from rfl, ← hb] at hpB
      rw [hpB] at hrow
      cases b
      · simp -dsimp [f3, f5, f6, f7, f8, f9]
        exact hfin _ _ (by rw [← hrow]; simp)
      simp -dsimp [f3, f5, f6, f7, f8, f9, hkx]
      refine guardVW_introFD (fun q1 => ?_) (fun q1 => ?_)
      · simp -dsimp [q1]
        exact hfin _ _ (by rw [← hrow, decide_eq_false (show ¬ 0 ≤ x.at_ by omega)]; simp)
      simp -dsimp [hkx, f7, q1]
      refine guardVW_introFD (fun q2 => ?_) (fun q2 => ?_)
      · simp -dsimp [q2]
        exact hfin _ _ (by rw [← hrow, decide_eq_false (show ¬ x.at_ ≤ 8192 by omega)]; simp)
      have hmod : x.at_.tmod 8 = x.at_ % 8 := Int.tmod_eq_emod_of_nonneg (by omega)
      simp -dsimp [hkx, f7, q1, q2, hmod]
      refine guardVW_introFNE (fun q3 q3a q3b => ?_) (fun q3 => ?_)
      · simp -dsimp [q3b]
        exact hfin _ _ (by rw [← hrow, decide_eq_false q3]; simp)
      have q3b : (x.at_ % 8 != 0) = false := by simp [q3]
      obtain ⟨v, hvm, hvl⟩ := List.any_eq_true.1 hb.symm
      have hxs : 1 ≤ x.size ∧ x.size ≤ 512 := by
        unfold likeP at hvl
        rw [Bool.and_eq_true, beq_iff_eq] at hvl
        rw [← hvl.2]; exact hAs v hvm
      have w2 : IntKind.i64.wrap (8 * x.size) = 8 * x.size := wrapI (by omega) (by omega)
      have w3 : IntKind.i64.wrap (x.at_ + 8 * x.size) = x.at_ + 8 * x.size := wrapI (by omega) (by omega)
      simp -dsimp [hkx, f7, q1, q2, q3b, w2, w3, f3, v1]
      refine condVW_introD (fun q4 => ?_) (fun q4 => ?_)
      · simp -dsimp
        exact hfin _ _ (by rw [← hrow, decide_eq_false (show ¬ x.at_ + 8 * x.size ≤ l.size by omega)]; simp)
      rw [decide_eq_true (show 0 ≤ x.at_ by omega), decide_eq_true (show x.at_ ≤ 8192 by omega), decide_eq_true q3, decide_eq_true (show x.at_ + 8 * x.size ≤ l.size by omega)] at hrow
      simp only [Bool.true_and] at hrow
      obtain ⟨T, hT⟩ : ∃ T, T = l.places.take i := ⟨_, rfl⟩
      have hTl : T.length = i := by rw [hT]; simp; omega
      have hTx : ∀ k, k < i → l.places[k]? = T[k]? := fun k hk => by rw [hT, List.getElem?_take_of_lt hk]
      rw [← hT] at hrow hys ht
      have vG : ∀ L X R, (V (L ++ X :: R))[(V L).length]? = some X := fun L X R => by rw [← vA]; simp
      have vA2 : ∀ L X R Y, V (L ++ X :: R) ++ Y = V (L ++ X :: (R ++ Y)) := fun L X R Y => by rw [vA]; simp
      have vN2 : ∀ L X R Y, (V (L ++ X :: (R ++ [Y])))[(V (L ++ X :: R)).length]? = some Y := fun L X R Y => by rw [← vA2]; simp
      have vS2 : ∀ L X R Y Z, (V (L ++ X :: (R ++ [Y]))).set (V (L ++ X :: R)).length Z = V (L ++ X :: (R ++ [Z])) := fun L X R Y Z => by rw [← vA2, ← vA2]; simp
      simp -dsimp [f3, f5, f6, f7]
      refine loop_rule (hn := fun _ => false) (od := fun _ => none) (fun (z : Nat × List Blk) f H' => H' = V (L ++ Blk.box 41 [St x.name, I x.at_, I x.size] :: z.2) ∧ f 3 = .bp (H.length + 1) 0 ∧ f 5 = Vr.sl A ∧ f 6 = I i ∧ f 7 = .bp (V L).length 0 ∧ f 10 = I z.1 ∧ z.1 ≤ i ∧ allP x (T.take z.1) = true)
        (fun z => i - z.1) (by kernel_rfl) (0, []) ⟨rfl, by simp [f3], by simp [f5], by simp [f6], by simp [f7], by simp, by simp, by simp [allP]⟩ ?_
      clear f3 f5 f6 f7 f8 f9
      rintro ⟨k, R⟩ f _ ⟨rfl, f3, f5, f6, f7, f10, hk, hall⟩
      simp only at f10 hk hall
      simp -dsimp [f3, f5, f6, f7, f10]
      refine condVW_introD (fun hlk => ?_) (fun hlk => ?_)
      · have hlk' : k < i := by omega
        have hv := List.getElem?_eq_getElem (show k < T.length by omega)
        have htk : T.take (k + 1) = T.take k ++ [T[k]] := List.take_succ_eq_append_getElem (by omega)
        have hyb := hys T[k] (List.getElem_mem (by omega))
        rw [← hTx k hlk'] at hv
        obtain ⟨y, hye⟩ : ∃ y, y = T[k]'(by omega) := ⟨_, rfl⟩
        rw [← hye] at hv htk hyb
        have hall' : allP x (T.take (k + 1)) = apartB x y := by rw [htk, allP, List.all_append]; rw [allP] at hall; rw [hall]; simp
        have hno : apartB x y = false → false = fitB p l := fun h => by
          rw [← hrow]
          have : T.all (apartB x) = false := by
            rw [List.all_eq_false]
            exact ⟨y, by rw [hye]; exact List.getElem_mem _, by simp [h]⟩
          rw [this]; simp
        have wk : IntKind.i64.wrap ((k : Int) + 1) = ((k + 1 : Nat) : Int) := wrapS (by omega)
        have y2 : IntKind.i64.wrap (8 * y.size) = 8 * y.size := wrapI (by omega) (by omega)
        have y3 : IntKind.i64.wrap (y.at_ + 8 * y.size) = y.at_ + 8 * y.size := wrapI (by omega) (by omega)
        have hap := apartB_eq x y
        simp -dsimp [f3, f5, f6, f7, f10, v1, hv, vG, vA2, vN2, vS2]
        refine guardVW_introFD (fun r1 => ?_) (fun r1 => ?_)
        · simp -dsimp [r1]
          exact hfin _ _ (hno (by rw [hap, decide_eq_true r1]; rfl))
        simp -dsimp [f3, f5, f6, f7, f10, v1, hv, vG, vA2, vN2, vS2, r1, y2, y3]
        refine guardVW_introTD (fun r2 => ?_) (fun r2 => ?_)
        · simp -dsimp [f3, f5, f6, f7, f10, v1, hv, vG, vA2, vN2, vS2, r1, y2, y3, r2, w2, w3]
          refine condVW_introD (fun r3 => ?_) (fun r3 => ?_)
          · simp -dsimp
            exact hfin _ _ (hno (by rw [hap, decide_eq_true r2, decide_eq_true r3]; simp))
          · simp -dsimp [f3, f5, f6, f7, f10]
            exact ⟨k + 1, by omega, ⟨_, rfl⟩, wk, by omega, by rw [hall', hap, decide_eq_false r1, decide_eq_false r3]; simp⟩
        · simp -dsimp [f3, f5, f6, f7, f10, r1, r2]
          exact ⟨k + 1, by omega, ⟨_, rfl⟩, wk, by omega, by rw [hall', hap, decide_eq_false r1, decide_eq_false r2]; simp⟩
      · have hTk : T.take k = T := List.take_of_length_le (by omega)
        rw [hTk] at hall
        simp -dsimp [f3, f5, f6, f7]
        rw [show T.all (apartB x) = allP x T from rfl, hall, Bool.true_and, ← ht] at hrow
        refine ⟨i + 1, by omega, ⟨_, rfl⟩, w1, by omega, fun y hy => ?_, hrow⟩
        rw [ht] at hy
        rcases List.mem_append.1 hy with hy | hy
        · exact hys y hy
        · rw [List.mem_singleton.1 hy]; omega
  · simp -dsimp
    refine hfin _ _ ?_
    rw [List.drop_of_length_le (by omega), placesB] at hrow
    exact hrow
end Go.Proofs
namespace Go.Proofs
open Go.Mu
theorem frameFits_ok (p : Pg) (hp : p.OkF) (h3 : p.Ok3) (l : Ly) (hl : l.places.length ≤ 2^36) (n : ByteArray) (H : List Blk) : ACalls Tryz.prog 4 [.agg p.cells, .agg l.cells, St n] H (fun e H' => e = .ret (Bo true) ∧ H' = H) := by
  refine acalls_tidy (acalls_of_vc (hn := fun _ => false) (od := fun _ => none) Tryz.func4 rfl (by kernel_rfl) ?_)
  have cs := fun H => small_ok p hp.ok2 500 H
  have cl := fun H => lfits_ok p hp h3 l hl H
  have cf := fun H => fits_ok p hp l hl H
  have cw := fun H => where_ok p hp l hl n H
  have ca := fun H => ask_ok p hp h3 H
  have ck := fun H => known_ok H
  have hrg := hp.regions
  obtain ⟨at_, ab, e, hW⟩ : ∃ a b c, (a, b, c) = whereF p l n := ⟨_, _, _, rfl⟩
  rw [← hW] at cw
  unfold whereF at hW
  simp only [Pg.cells, Ly.cells] at cs cl ca cf cw
  have fin : ∀ L, Tidy H (fun e H' => e = AE.ret (Bo true) ∧ H' = H) (.ret (Bo true)) (H ++ L) := fun L => tidy_same rfl ⟨rfl, rfl⟩
  obtain ⟨V, hV⟩ : ∃ V : List Blk, V = H ++ [.box 25 [Rg.sl p.regions, Fc.sl p.funcs], .box 30 [Pl.sl l.places, I l.size]] := ⟨_, rfl⟩
  have v0 : V[H.length]? = some (.box 25 [Rg.sl p.regions, Fc.sl p.funcs]) := by rw [hV]; simp
  have v1 : V[H.length + 1]? = some (.box 30 [Pl.sl l.places, I l.size]) := by rw [hV]; simp
  have hfin : Tidy H (fun e H' => e = AE.ret (Bo true) ∧ H' = H) (.ret (Bo true)) V := by rw [hV]; exact fin _
  simp -dsimp
  rw [← hV]
  clear hV
  refine acallsW_det (cs _) ?_
  simp -dsimp
  cases hsm : smallB p 500
  · simp -dsimp
    refine acallsW_det (ck _) ?_
    simp -dsimp
    exact hfin
  simp -dsimp [v1]
  refine condVW_introD (fun h100 => ?_) (fun h100 => ?_)
  · simp -dsimp
    refine acallsW_det (ck _) ?_
    simp -dsimp
    exact hfin
  simp -dsimp [v0, v1]
  refine acallsW_det (cl _) ?_
  simp -dsimp [v0, v1]
  refine acallsW_det (cf _) ?_
  obtain ⟨ok, hok⟩ : ∃ ok, ok = fitB p l := ⟨_, rfl⟩
  rw [← hok] at hW ⊢
  have hne : binE Tryz.prog BinOp.neq 4 (Bo ok) (Bo ok) = some (Bo false) := by cases ok <;> kernel_rfl
  simp -dsimp [v0, v1, hne]
  refine acallsW_det (cw _) ?_
  simp -dsimp [v0]
  refine acallsW_det (ca _) ?_
  simp -dsimp
  refine condVW_introNE (fun q1 q1a q1b => ?_) (fun q1 => ?_)
  · rw [if_pos q1] at hW
    simp only [Prod.mk.injEq] at hW
    obtain ⟨rfl, rfl, rfl⟩ := hW
    simp -dsimp
    refine acallsW_det (ck _) ?_
    simp -dsimp
    exact hfin
  rw [if_neg (by simpa using q1)] at hW
  simp -dsimp
  cases ok
  · rw [if_pos rfl] at hW
    simp only [Prod.mk.injEq] at hW
    obtain ⟨rfl, rfl, rfl⟩ := hW
    simp -dsimp
    refine acallsW_det (ck _) ?_
    simp -dsimp
    exact hfin
  rw [if_neg (by simp)] at hW
  simp -dsimp
  obtain ⟨rg, hrgE⟩ : ∃ rg : Int × Bool × Int, rg = match p.regions.find? (fun r => decide (r.name = n)) with | some r => (r.addr, false, 0) | none => (0, false, 8) := ⟨_, rfl⟩
  have hW : (at_, ab, e) = match l.places.find? (fun x => decide (x.name = n)) with | some x => (x.at_, true, 0) | none => rg := by rw [hrgE]; exact hW
  refine loop_rule (hn := fun _ => false) (od := fun _ => none) (fun (i : Nat) f H' => H' = V ∧ f 2 = St n ∧ f 3 = .bp H.length 0 ∧ f 4 = .bp (H.length + 1) 0 ∧ f 8 = I at_ ∧ f 9 = Bo ab ∧ f 10 = I e ∧ f 12 = I i ∧ i ≤ l.places.length ∧ (at_, ab, e) = match (l.places.drop i).find? (fun x => decide (x.name = n)) with | some x => (x.at_, true, 0) | none => rg)
    (fun i => l.places.length - i) (by kernel_rfl) 0 ⟨rfl, by simp, by simp, by simp, by simp, by simp, by simp, by simp, by simp, hW⟩ ?_
  clear hW
  rintro i f V ⟨rfl, f2, f3, f4, f8, f9, f10, f12, hi, hW⟩
  simp -dsimp [f2, f3, f4, f8, f9, f10, f12, v1]
  refine condVW_introD (fun hlt => ?_) (fun hlt => ?_)
  · have hlt' : i < l.places.length := by omega
    have hx := List.getElem?_eq_getElem hlt'
    have ht : l.places.drop i = l.places[i] :: l.places.drop (i + 1) := List.drop_eq_getElem_cons hlt'
    obtain ⟨y, hy⟩ : ∃ y, y = l.places[i] := ⟨_, rfl⟩
    rw [← hy] at hx ht
    rw [ht, List.find?_cons] at hW
    have w1 : IntKind.i64.wrap ((i : Int) + 1) = ((i + 1 : Nat) : Int) := wrapS (by omega)
    simp -dsimp [f2, f3, f4, f8, f9, f10, f12, v1, hx]
    refine condVW_introD (fun q2 => ?_) (fun q2 => ?_)
    · rw [decide_eq_true q2] at hW
      simp only [Prod.mk.injEq] at hW
      obtain ⟨rfl, rfl, rfl⟩ := hW
      simp -dsimp [f2, f3, f4, f8, f9, f10, f12, v1, hx]
      refine acallsW_det (ck _) ?_
      simp -dsimp
      exact hfin
    · rw [decide_eq_false q2] at hW
      simp -dsimp [f2, f3, f4, f8, f9, f10, f12]
      exact ⟨i + 1, by omega, w1, by omega, hW⟩
  · rw [List.drop_of_length_le (by omega)] at hW
    simp only [List.find?_nil] at hW
    rw [hrgE] at hW
    clear hrgE f4 f12
    simp -dsimp [f2, f3, f8, f9, f10]
    refine loop_rule (hn := fun _ => false) (od := fun _ => none) (fun (i : Nat) f H' => H' = V ∧ f 2 = St n ∧ f 3 = .bp H.length 0 ∧ f 8 = I at_ ∧ f 9 = Bo ab ∧ f 10 = I e ∧ f 13 = I i ∧ i ≤ p.regions.length ∧ (at_, ab, e) = match (p.regions.drop i).find? (fun r => decide (r.name = n)) with | some r => (r.addr, false, 0) | none => (0, false, 8))
      (fun i => p.regions.length - i) (by kernel_rfl) 0 ⟨rfl, by simp [f2], by simp [f3], by simp [f8], by simp [f9], by simp [f10], by simp, by simp, hW⟩ ?_
    clear hW f2 f3 f8 f9 f10
    rintro i f V ⟨rfl, f2, f3, f8, f9, f10, f13, hi, hW⟩
    simp -dsimp [f2, f3, f8, f9, f10, f13, v0]
    refine condVW_introD (fun hlt => ?_) (fun hlt => ?_)
    · have hlt' : i < p.regions.length := by omega
      have hx := List.getElem?_eq_getElem hlt'
      have ht : p.regions.drop i = p.regions[i] :: p.regions.drop (i + 1) := List.drop_eq_getElem_cons hlt'
      obtain ⟨y, hy⟩ : ∃ y, y = p.regions[i] := ⟨_, rfl⟩
      rw [← hy] at hx ht
      rw [ht, List.find?_cons] at hW
      have w1 : IntKind.i64.wrap ((i : Int) + 1) = ((i + 1 : Nat) : Int) := wrapS (by omega)
      simp -dsimp [f2, f3, f8, f9, f10, f13, v0, hx]
      refine condVW_introD (fun q2 => ?_) (fun q2 => ?_)
      · rw [decide_eq_true q2] at hW
        simp only [Prod.mk.injEq] at hW
        obtain ⟨rfl, rfl, rfl⟩ := hW
        simp -dsimp [f2, f3, f8, f9, f10, f13, v0, hx]
        refine acallsW_det (ck _) ?_
        simp -dsimp
        exact hfin
      · rw [decide_eq_false q2] at hW
        simp -dsimp [f2, f3, f8, f9, f10, f13]
        exact ⟨i + 1, by omega, w1, by omega, hW⟩
    · rw [List.drop_of_length_le (by omega)] at hW
      simp only [List.find?_nil, Prod.mk.injEq] at hW
      obtain ⟨rfl, rfl, rfl⟩ := hW
      simp -dsimp [f8, f9, f10]
      refine acallsW_det (ck _) ?_
      simp -dsimp
      exact hfin
end Go.Proofs
