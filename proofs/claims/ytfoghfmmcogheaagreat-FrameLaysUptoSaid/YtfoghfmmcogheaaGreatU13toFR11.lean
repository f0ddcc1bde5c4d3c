/- The document's layer 7: what a program uses. -/
import Derived.Test.YtfoghfmmcogheaaGreatFwVtoFR3
import Derived.Test.YtfoghfmmcogheaaGreatFR9
import Derived.Test.YtfoghfmmcogheaaGreatG28toL5
set_option linter.unusedVariables false
set_option linter.unusedSimpArgs false
set_option maxHeartbeats 4000000
set_option maxRecDepth 100000
namespace Go.Proofs
open Go.Mu
theorem ruses_ok (kd : Int) (m : Nat) : ∀ (l : List Sm), smsCount l < m → smsCount l ≤ 2^40 → ∀ (H : List Blk), ACalls Tryz.prog 34 [Sm.sl l, I kd] H (fun e H' => e = .ret (Bo (smsUses kd l)) ∧ H' = H) := by
  induction m with
  | zero => intro l h; omega
  | succ m ih =>
    intro l hm hc H
    refine acalls_tidy (acalls_of_vc (hn := fun _ => false) (od := fun _ => none) Tryz.func34 rfl (by kernel_rfl) ?_)
    have hlen := sms_len l
    obtain ⟨E, hE⟩ : ∃ E, E = smsUses kd l := ⟨_, rfl⟩
    rw [← hE]
    have fin : ∀ b, b = E → Tidy H (fun e H' => e = .ret (Bo E) ∧ H' = H) (.ret (Bo b)) H := fun b h => by rw [h]; exact tidy_now rfl ⟨rfl, rfl⟩
    simp -dsimp
    refine loop_rule (hn := fun _ => false) (od := fun _ => none) (fun (i : Nat) f H' => H = H' ∧ f 0 = Sm.sl l ∧ f 1 = I kd ∧ f 5 = I i ∧ i ≤ l.length ∧ E = smsUses kd (l.drop i)) (fun i => l.length - i) (by kernel_rfl) 0 (by simp; exact hE) ?_
    clear hE
    rintro i f _ ⟨rfl, f0, f1, f5, hi, hinv⟩
    replace hinv := Hid.mk hinv
    simp -dsimp [f0, f1, f5]
    refine condVW_introD (fun hlt => ?_) (fun hlt => ?_)
    · replace hinv := hinv.out
      rw [drop_cons hlt, smsUses, Sm.uses_eq] at hinv
      have hlx := List.getElem?_eq_getElem hlt
      have hgx := sms_get hlt
      obtain ⟨x, hx⟩ : ∃ x, x = l[i] := ⟨_, rfl⟩
      rw [← hx] at hinv hlx hgx
      clear hx
      have hcx := Sm.count_eq x
      have c1 := fun H => ih x.body (by omega) (by omega) H
      have c2 := fun H => ih x.els (by omega) (by omega) H
      obtain ⟨b1, hb1⟩ : ∃ b1, b1 = smsUses kd x.body := ⟨_, rfl⟩
      obtain ⟨b2, hb2⟩ : ∃ b2, b2 = smsUses kd x.els := ⟨_, rfl⟩
      rw [← hb1] at c1 hinv
      rw [← hb2] at c2 hinv
      replace hinv := Hid.mk hinv
      by_cases hk : x.kind = kd
      · simp -dsimp [f0, f1, f5, hlx, hk]
        exact fin _ (by rw [hinv.out]; simp [hk])
      · have hkb : (x.kind == kd) = false := by simpa using hk
        simp -dsimp [f0, f1, f5, hlx, hkb]
        refine acallsW_det (c1 _) ?_
        cases b1
        · simp -dsimp [f0, f1, f5, hlx, hkb]
          refine acallsW_det (c2 _) ?_
          cases b2
          · simp -dsimp [f0, f1, f5]
            exact ⟨i + 1, by omega, wrapS (by omega), by omega, by rw [hinv.out, hkb]; rfl⟩
          · simp -dsimp
            exact fin _ (by rw [hinv.out, hkb]; rfl)
        · simp -dsimp
          exact fin _ (by rw [hinv.out, hkb]; rfl)
    · replace hinv := hinv.out
      rw [drop_end hlt, smsUses] at hinv
      simp -dsimp
      exact fin _ hinv.symm
def FormK2 (M : Bool → Bool → Bool → Bool → List Blk → List Blk) (a b C D ra rs : Bool) (L : List Blk) (l : List Vr) (H' : List Blk) : Prop := ∃ c d, H' = M a b c d L ∧ (c || (vrsUse 2 l || ra)) = C ∧ (d || (vrsUse 3 l || rs)) = D
theorem rform_ok (p : Pg) (hc : ∀ f ∈ p.funcs, smsCount f.body ≤ 2^40) (hv : ∀ f ∈ p.funcs, f.vars.length ≤ 2^40) (hfl : p.funcs.length ≤ 2^40) (hrl : p.regions.length ≤ 2^40) (H : List Blk) : ACalls Tryz.prog 19 [.agg p.cells] H (fun e H' => e = .ret (.agg (formT p).cells) ∧ H' = H) := by
  refine acalls_tidy (acalls_of_awp Tryz.func19 rfl (by kernel_rfl) ?_)
  obtain ⟨bP, hbP⟩ : ∃ bP, bP = Blk.box 25 [Rg.sl p.regions, Fc.sl p.funcs] := ⟨_, rfl⟩
  obtain ⟨z, hz⟩ : ∃ z, z = formB false false false false := ⟨_, rfl⟩
  refine awp_cut (fun _ => false) (fun _ => none) (fun f H' => H' = H ++ [bP, z] ∧ f 1 = .bp H.length 0 ∧ f 2 = .bp (H.length + 1) 0) (by kernel_rfl) ?_ ?_
  · rw [hbP, hz]
    simp -dsimp
  rintro g _ ⟨rfl, g1, g2⟩
  obtain ⟨b1, hb1⟩ : ∃ b1, b1 = decide (1 < p.funcs.length) := ⟨_, rfl⟩
  obtain ⟨b4, hb4⟩ : ∃ b4, b4 = decide (0 < p.regions.length) := ⟨_, rfl⟩
  have e1 : decide ((1 : Int) < p.funcs.length) = b1 := by rw [hb1]; by_cases h : 1 < p.funcs.length <;> simp [h] <;> omega
  have e4 : decide ((0 : Int) < p.regions.length) = b4 := by rw [hb4]; by_cases h : 0 < p.regions.length <;> simp [h] <;> omega
  obtain ⟨M, hM⟩ : ∃ M : Bool → Bool → Bool → Bool → List Blk → List Blk, M = fun a b c d L => H ++ bP :: z :: formB a b c d :: L := ⟨_, rfl⟩
  have hMe : ∀ a b c d L, M a b c d L = H ++ bP :: z :: formB a b c d :: L := fun a b c d L => by rw [hM]
  have m0 : ∀ a b c d L, (M a b c d L)[H.length]? = some (.box 25 [Rg.sl p.regions, Fc.sl p.funcs]) := fun a b c d L => by rw [hMe, ← hbP]; simp
  have m1 : ∀ a b c d L, (M a b c d L)[H.length + 1]? = some (formB false false false false) := fun a b c d L => by rw [hMe, hz]; simp
  have m2 : ∀ a b c d L, (M a b c d L)[H.length + 2]? = some (formB a b c d) := fun a b c d L => by rw [hMe]; simp
  have ms : ∀ a b c d a' b' c' d' L, (M a b c d L).set (H.length + 2) (formB a' b' c' d') = M a' b' c' d' L := fun a b c d a' b' c' d' L => by rw [hMe, hMe]; simp
  clear hM
  have hg0 : (H ++ [bP, z])[H.length]? = some (.box 25 [Rg.sl p.regions, Fc.sl p.funcs]) := by rw [← hbP]; simp
  obtain ⟨V, hV⟩ : ∃ V, V = H ++ [bP, z] := ⟨_, rfl⟩
  have hVl : V.length = H.length + 2 := by rw [hV]; simp
  have hVM : ∀ a b c d, V ++ [formB a b c d] = M a b c d [] := fun a b c d => by rw [hMe, hV]; simp
  rw [← hV] at hg0 ⊢
  refine awp_cut (fun _ => false) (fun _ => none) (fun f H' => H' = M b1 false false b4 [] ∧ f 1 = .bp H.length 0 ∧ f 2 = .bp (H.length + 1) 0 ∧ f 3 = .bp V.length 0) (by kernel_rfl) ?_ ?_
  · simp -dsimp [g1, g2, hg0, e1, e4, hb4.symm, hb1.symm]
    exact hVM _ _ _ _
  clear g g1 g2
  rw [hVl]
  rintro g _ ⟨rfl, g1, g2, g3⟩
  clear hV hVl hVM hg0 V
  refine awp_cutA (fun f H' => FormJ M (formT p) [] H' ∧ f 2 = .bp (H.length + 1) 0 ∧ f 3 = .bp (H.length + 2) 0) ?_ ?_
  rotate_left
  · clear g g1 g2 g3
    rintro g _ ⟨⟨a, b, c, d, L, rfl, h1, h2, h3, h4⟩, g2, g3⟩
    simp only [fcsUse, fcsVar, Bool.or_false] at h1 h2 h3 h4
    refine awp_all (fun _ => false) (fun _ => none) (by kernel_rfl) ?_
    have q1 : ∀ X, ((M a b c d L).set (H.length + 1) X)[H.length + 1]? = some X := fun X => by rw [List.getElem?_set_self (by rw [hMe]; simp)]
    have q2 : ∀ X, (M a b c d L).set (H.length + 1) X = H ++ bP :: X :: formB a b c d :: L := fun X => by rw [hMe]; simp
    simp -dsimp [g2, g3, m2, m1, q1]
    rw [q2, h1, h2, h3, h4]
    exact tidy_same rfl ⟨rfl, rfl⟩
  refine awp_cut (fun _ => false) (fun _ => none) (fun f H' => H' = M b1 false false b4 [] ∧ f 1 = .bp H.length 0 ∧ f 2 = .bp (H.length + 1) 0 ∧ f 3 = .bp (H.length + 2) 0 ∧ f 4 = I 0) (by kernel_rfl) ?_ ?_
  · simp -dsimp [g1, g2, g3]
  clear g g1 g2 g3
  rintro g _ ⟨rfl, g1, g2, g3, g4⟩
  refine awp_block ?_
  refine awp_loopI (fun (i : Nat) f H' => FormJ M (formT p) (p.funcs.drop i) H' ∧ f 1 = .bp H.length 0 ∧ f 2 = .bp (H.length + 1) 0 ∧ f 3 = .bp (H.length + 2) 0 ∧ f 4 = I i ∧ i ≤ p.funcs.length) (fun i => p.funcs.length - i) 0
    ⟨⟨b1, false, false, b4, [], rfl, by rw [hb1]; rfl, rfl, rfl, by rw [hb4]; rfl⟩, g1, g2, g3, g4, by omega⟩ ?_
  clear g g1 g2 g3 g4
  rintro i g _ ⟨⟨a, b, c, d, L, rfl, h1, h2, h3, h4⟩, g1, g2, g3, g4, hi⟩
  refine awp_cut (fun _ => false) (fun _ => none) (fun f H' => H' = M a b c d L ∧ f 1 = .bp H.length 0 ∧ f 2 = .bp (H.length + 1) 0 ∧ f 3 = .bp (H.length + 2) 0 ∧ f 4 = I i ∧ i < p.funcs.length) (by kernel_rfl) ?_ ?_
  · simp -dsimp [g1, g2, g3, g4, m0]
    refine condVW_introD (fun hlt => ?_) (fun hlt => ?_)
    · simp -dsimp [g1, g2, g3, g4]
      omega
    · rw [drop_end hlt] at h1 h2 h3 h4
      simp -dsimp [g2, g3]
      exact ⟨a, b, c, d, L, rfl, h1, h2, h3, h4⟩
  clear g g1 g2 g3 g4
  rintro g _ ⟨rfl, g1, g2, g3, g4, hlt⟩
  have hlx : p.funcs[i]? = some p.funcs[i] := List.getElem?_eq_getElem hlt
  have hmx := List.getElem_mem hlt
  rw [drop_cons hlt] at h1 h2 h3 h4
  obtain ⟨x, hx⟩ : ∃ x, x = p.funcs[i] := ⟨_, rfl⟩
  rw [← hx] at hlx hmx h1 h2 h3 h4
  clear hx
  have hxc := hc x hmx
  have hxv := hv x hmx
  rw [fcsUse] at h1 h2
  rw [fcsVar] at h3 h4
  have w1 : IntKind.i64.wrap ((i : Int) + 1) = ((i + 1 : Nat) : Int) := wrapS (by omega)
  refine awp_cutA (fun f H' => FormJ M (formT p) (p.funcs.drop (i + 1)) H' ∧ f 1 = .bp H.length 0 ∧ f 2 = .bp (H.length + 1) 0 ∧ f 3 = .bp (H.length + 2) 0 ∧ f 4 = I i) ?_ ?_
  rotate_left
  · clear g g1 g2 g3 g4
    rintro g H' ⟨ho, g1, g2, g3, g4⟩
    replace ho := Hid.mk ho
    refine awp_all (fun _ => false) (fun _ => none) (by kernel_rfl) ?_
    simp -dsimp [g1, g2, g3, g4]
    exact ⟨i + 1, by omega, ho.out, w1, by omega⟩
  refine awp_block ?_
  have c6 := fun H => ruses_ok 6 _ x.body (Nat.lt_succ_self _) hxc H
  have c5 := fun H => ruses_ok 5 _ x.body (Nat.lt_succ_self _) hxc H
  refine awp_cut (fun _ => false) (fun _ => none) (fun f H' => H' = M (a || smsUses 6 x.body) b c d L ∧ f 1 = .bp H.length 0 ∧ f 2 = .bp (H.length + 1) 0 ∧ f 3 = .bp (H.length + 2) 0 ∧ f 4 = I i) (by kernel_rfl) ?_ ?_
  · clear h1 h2 h3 h4
    cases a
    · simp -dsimp [g1, g2, g3, g4, m0, m2, ms, hlx]
      refine acallsW_det (c6 _) ?_
      simp -dsimp [g1, g2, g3, g4, m2, ms]
    · simp -dsimp [g1, g2, g3, g4, m2, ms]
  clear g g1 g2 g3 g4
  rintro g _ ⟨rfl, g1, g2, g3, g4⟩
  obtain ⟨a2, ha2⟩ : ∃ a2, a2 = (a || smsUses 6 x.body) := ⟨_, rfl⟩
  rw [← ha2]
  refine awp_cut (fun _ => false) (fun _ => none) (fun f H' => H' = M a2 (b || smsUses 5 x.body) c d L ∧ f 1 = .bp H.length 0 ∧ f 2 = .bp (H.length + 1) 0 ∧ f 3 = .bp (H.length + 2) 0 ∧ f 4 = I i) (by kernel_rfl) ?_ ?_
  · clear h1 h2 h3 h4
    cases b
    · simp -dsimp [g1, g2, g3, g4, m0, m2, ms, hlx]
      refine acallsW_det (c5 _) ?_
      simp -dsimp [g1, g2, g3, g4, m2, ms]
    · simp -dsimp [g1, g2, g3, g4, m2, ms]
  clear g g1 g2 g3 g4
  rintro g _ ⟨rfl, g1, g2, g3, g4⟩
  obtain ⟨b2, hb2⟩ : ∃ b2, b2 = (b || smsUses 5 x.body) := ⟨_, rfl⟩
  rw [← hb2]
  have h1' : (a2 || fcsUse 6 (p.funcs.drop (i + 1))) = (formT p).calls := by rw [← h1, ha2]; simp only [Bool.or_assoc]
  have h2' : (b2 || fcsUse 5 (p.funcs.drop (i + 1))) = (formT p).fors := by rw [← h2, hb2]; simp only [Bool.or_assoc]
  clear h1 h2 ha2 hb2
  obtain ⟨T, hT⟩ : ∃ T, T = formT p := ⟨_, rfl⟩
  rw [← hT] at h1' h2' h3 h4 ⊢
  clear hT
  obtain ⟨r2, hr2⟩ : ∃ r, r = fcsVar 2 (p.funcs.drop (i + 1)) := ⟨_, rfl⟩
  obtain ⟨r3, hr3⟩ : ∃ r, r = fcsVar 3 (p.funcs.drop (i + 1)) := ⟨_, rfl⟩
  rw [← hr2] at h3
  rw [← hr3] at h4
  refine awp_cut (fun _ => false) (fun _ => none) (fun f H' => H' = M a2 b2 c d L ∧ f 1 = .bp H.length 0 ∧ f 2 = .bp (H.length + 1) 0 ∧ f 3 = .bp (H.length + 2) 0 ∧ f 4 = I i ∧ f 5 = I 0) (by kernel_rfl) ?_ ?_
  · simp -dsimp [g1, g2, g3, g4]
  clear g g1 g2 g3 g4
  rintro g _ ⟨rfl, g1, g2, g3, g4, g5⟩
  refine awp_block ?_
  refine awp_loopI (fun (j : Nat) f H' => FormK2 M a2 b2 T.arrays T.stack r2 r3 L (x.vars.drop j) H' ∧ f 1 = .bp H.length 0 ∧ f 2 = .bp (H.length + 1) 0 ∧ f 3 = .bp (H.length + 2) 0 ∧ f 4 = I i ∧ f 5 = I j ∧ j ≤ x.vars.length) (fun j => x.vars.length - j) 0
    ⟨⟨c, d, rfl, h3, h4⟩, g1, g2, g3, g4, g5, by omega⟩ ?_
  clear g g1 g2 g3 g4 g5 h3 h4 c d
  rintro j g _ ⟨⟨c, d, rfl, h3, h4⟩, g1, g2, g3, g4, g5, hj⟩
  refine awp_cut (fun _ => false) (fun _ => none) (fun f H' => H' = M a2 b2 c d L ∧ f 1 = .bp H.length 0 ∧ f 2 = .bp (H.length + 1) 0 ∧ f 3 = .bp (H.length + 2) 0 ∧ f 4 = I i ∧ f 5 = I j ∧ j < x.vars.length) (by kernel_rfl) ?_ ?_
  · simp -dsimp [g1, g2, g3, g4, g5, m0, hlx]
    refine condVW_introD (fun hlt2 => ?_) (fun hlt2 => ?_)
    · simp -dsimp [g1, g2, g3, g4, g5]
      omega
    · rw [drop_end hlt2, vrsUse, Bool.false_or] at h3 h4
      simp -dsimp [g1, g2, g3, g4]
      exact ⟨a2, b2, c, d, L, rfl, h1', h2', by rw [h3.symm, hr2], by rw [h4.symm, hr3]⟩
  clear g g1 g2 g3 g4 g5
  rintro g _ ⟨rfl, g1, g2, g3, g4, g5, hlt2⟩
  have hly : x.vars[j]? = some x.vars[j] := List.getElem?_eq_getElem hlt2
  rw [drop_cons hlt2, vrsUse] at h3 h4
  obtain ⟨y, hy⟩ : ∃ y, y = x.vars[j] := ⟨_, rfl⟩
  rw [← hy] at hly h3 h4
  clear hy
  have w2 : IntKind.i64.wrap ((j : Int) + 1) = ((j + 1 : Nat) : Int) := wrapS (by omega)
  refine awp_cutA (fun f H' => FormK2 M a2 b2 T.arrays T.stack r2 r3 L (x.vars.drop (j + 1)) H' ∧ f 1 = .bp H.length 0 ∧ f 2 = .bp (H.length + 1) 0 ∧ f 3 = .bp (H.length + 2) 0 ∧ f 4 = I i ∧ f 5 = I j) ?_ ?_
  rotate_left
  · clear g g1 g2 g3 g4 g5
    rintro g H' ⟨ho, g1, g2, g3, g4, g5⟩
    replace ho := Hid.mk ho
    refine awp_all (fun _ => false) (fun _ => none) (by kernel_rfl) ?_
    simp -dsimp [g1, g2, g3, g4, g5]
    exact ⟨j + 1, by omega, ho.out, w2, by omega⟩
  refine awp_block ?_
  refine awp_cut (fun _ => false) (fun _ => none) (fun f H' => H' = M a2 b2 (c || y.kind == 2) d L ∧ f 1 = .bp H.length 0 ∧ f 2 = .bp (H.length + 1) 0 ∧ f 3 = .bp (H.length + 2) 0 ∧ f 4 = I i ∧ f 5 = I j) (by kernel_rfl) ?_ ?_
  · clear h3 h4 h1' h2'
    cases c <;> simp -dsimp [g1, g2, g3, g4, g5, m0, m2, ms, hlx, hly]
  clear g g1 g2 g3 g4 g5
  rintro g _ ⟨rfl, g1, g2, g3, g4, g5⟩
  have hdone : FormK2 M a2 b2 T.arrays T.stack r2 r3 L (x.vars.drop (j + 1)) (M a2 b2 (c || y.kind == 2) (d || y.kind == 3) L) := ⟨_, _, rfl, by rw [← h3]; simp only [Bool.or_assoc], by rw [← h4]; simp only [Bool.or_assoc]⟩
  obtain ⟨c2, hc2⟩ : ∃ c2, c2 = (c || y.kind == 2) := ⟨_, rfl⟩
  rw [← hc2] at hdone ⊢
  clear h3 h4 h1' h2' hc2
  replace hdone := Hid.mk hdone
  refine awp_all (fun _ => false) (fun _ => none) (by kernel_rfl) ?_
  cases d
  · simp -dsimp [g1, g2, g3, g4, g5, m0, m2, ms, hlx, hly]
    have := hdone.out
    rwa [Bool.false_or] at this
  · simp -dsimp [g1, g2, g3, g4, g5, m0, m2, ms, hlx, hly]
    have := hdone.out
    rwa [Bool.true_or] at this
end Go.Proofs
namespace Go.Proofs
open Go.Mu
theorem ask_ok (p : Pg) (hp : p.OkF) (h3 : p.Ok3) (H : List Blk) : ACalls Tryz.prog 8 [.agg p.cells] H (fun e H' => e = .ret (I (whyF p)) ∧ H' = H) := by
  refine acalls_tidy (acalls_of_vc (hn := fun _ => false) (od := fun _ => none) Tryz.func8 rfl (by kernel_rfl) ?_)
  have cm := fun H => rmay_ok p h3 H
  have cf := fun H => rform_ok p (fun f hf => by have := hp.body f hf; omega) (fun f hf => by have := hp.vars f hf; omega) (by have := hp.funcs; omega) (by have := hp.regions; omega) H
  simp only [Pg.cells] at cm cf
  simp -dsimp
  refine acallsW_det (cm _) ?_
  simp -dsimp
  refine condVW_introNE (fun h1 h1a h1b => ?_) (fun h1 => ?_)
  · simp -dsimp
    exact tidy_same rfl ⟨by rw [whyF, if_pos h1], rfl⟩
  · have hw : whyF p = if ((formT p).calls || (formT p).fors || (formT p).arrays) = true then 9 else 0 := by rw [whyF, if_neg (by simpa using h1)]
    rw [hw]
    obtain ⟨ca, fo, ar, st, hT⟩ : ∃ a b c d, (⟨a, b, c, d⟩ : Fo) = formT p := ⟨_, _, _, _, rfl⟩
    rw [← hT] at cf
    rw [← hT]
    simp only [Fo.cells] at cf ⊢
    simp -dsimp
    refine acallsW_det (cf _) ?_
    cases ca
    · cases fo
      · cases ar
        · simp -dsimp
          exact tidy_same rfl ⟨rfl, rfl⟩
        · simp -dsimp
          exact tidy_same rfl ⟨rfl, rfl⟩
      · simp -dsimp
        exact tidy_same rfl ⟨rfl, rfl⟩
    · simp -dsimp
      exact tidy_same rfl ⟨rfl, rfl⟩
end Go.Proofs
namespace Go.Proofs
open Go.Mu
theorem laysV_get : ∀ (l : List Vr) (n : Int) (i : Nat), (laysV n l)[i]? = (l[i]?).map fun v => ⟨v.name, n + totV (l.take i), v.size⟩
  | [], n, i => by simp [laysV]
  | v :: l, n, 0 => by simp [laysV, totV]
  | v :: l, n, i + 1 => by rw [laysV, List.getElem?_cons_succ, List.getElem?_cons_succ, laysV_get l]; congr 1; funext w; rw [List.take_succ_cons, totV]; congr 1; omega
theorem frameLays_ok (p : Pg) (hp : p.OkF) (h3 : p.Ok3) (H : List Blk) : ACalls Tryz.prog 3 [.agg p.cells] H (fun e H' => e = .ret (Bo true) ∧ H' = H) := by
  refine acalls_tidy (acalls_of_vc (hn := fun _ => false) (od := fun _ => none) Tryz.func3 rfl (by kernel_rfl) ?_)
  have cs := fun H => small_ok p hp.ok2 1000 H
  have cl := fun H => lay_ok p hp H
  have ca := fun H => ask_ok p hp h3 H
  have ck := fun H => known_ok H
  simp only [Pg.cells] at cs cl ca
  have fin : ∀ L, Tidy H (fun e H' => e = AE.ret (Bo true) ∧ H' = H) (.ret (Bo true)) (H ++ L) := fun L => tidy_same rfl ⟨rfl, rfl⟩
  obtain ⟨bP, hbP⟩ : ∃ bP, bP = Blk.box 25 [Rg.sl p.regions, Fc.sl p.funcs] := ⟨_, rfl⟩
  obtain ⟨V, hV⟩ : ∃ V : List Blk → List Blk, V = fun L => H ++ bP :: L := ⟨_, rfl⟩
  have hVe : ∀ L, V L = H ++ bP :: L := fun L => by rw [hV]
  have vA : ∀ L R, V L ++ R = V (L ++ R) := fun L R => by rw [hVe, hVe]; simp
  have v0 : ∀ L, (V L)[H.length]? = some (.box 25 [Rg.sl p.regions, Fc.sl p.funcs]) := fun L => by rw [hVe, ← hbP]; simp
  have vN0 : ∀ X, (V [X])[(V []).length]? = some X := fun X => by rw [hVe, hVe]; simp
  have vS0 : ∀ X Y, (V [X]).set (V []).length Y = V [Y] := fun X Y => by rw [hVe, hVe, hVe]; simp
  have g0 : H ++ [bP] = V [] := by rw [hVe]
  have hfin : ∀ L, Tidy H (fun e H' => e = AE.ret (Bo true) ∧ H' = H) (.ret (Bo true)) (V L) := fun L => by rw [hVe]; exact fin _
  clear hV
  simp -dsimp
  rw [← hbP, g0]
  refine acallsW_det (cs _) ?_
  simp -dsimp
  cases hsm : smallB p 1000
  · simp -dsimp
    refine acallsW_det (ck _) ?_
    simp -dsimp
    exact hfin _
  simp -dsimp [v0]
  refine acallsW_det (cl _) ?_
  have hl := fun h => lay_fits (p := p) h
  have hlf : layF p = if whyF p ≠ 0 then (⟨[], 0⟩, whyF p) else if 8192 < up16 (totV (arrV p)) then (⟨[], 0⟩, 5) else (⟨laysV 0 (arrV p), up16 (totV (arrV p))⟩, 0) := rfl
  obtain ⟨Lp, hLp⟩ : ∃ Lp, Lp = (layF p).1 := ⟨_, rfl⟩
  obtain ⟨e, he⟩ : ∃ e, e = (layF p).2 := ⟨_, rfl⟩
  rw [← hLp, ← he]
  rw [← he, ← hLp] at hl
  simp only [Ly.cells]
  simp -dsimp [vA, vN0, vS0, v0]
  refine acallsW_det (ca _) ?_
  simp -dsimp
  refine condVW_introNE (fun q1 q1a q1b => ?_) (fun q1 => ?_)
  · rw [if_pos q1] at hlf
    rw [hlf] at he hLp
    subst he
    subst hLp
    simp -dsimp [vN0]
    refine acallsW_det (ck _) ?_
    simp -dsimp
    exact hfin _
  rw [if_neg (by simpa using q1)] at hlf
  obtain ⟨F, hF⟩ := may_arr (why_may q1)
  have hFv := hp.vars F (List.mem_of_getElem? hF.fn)
  have cr := fun H => larr_ok p F hF.fn hFv H
  simp only [Pg.cells] at cr
  rw [hF.arr] at hlf
  obtain ⟨A, hA⟩ : ∃ A, A = stkV F.vars := ⟨_, rfl⟩
  have hAl := hF.len
  have hAs := hF.sz
  rw [← hA] at hlf hAl hAs cr
  have hb := totV_bnd hAs
  simp -dsimp [v0]
  refine acallsW_det (cr _) ?_
  simp -dsimp
  refine loop_rule (hn := fun _ => false) (od := fun _ => none) (fun (i : Nat) f H' => H' = V [Blk.box 30 [Pl.sl Lp.places, I Lp.size]] ∧ f 1 = .bp H.length 0 ∧ f 3 = .bp (V []).length 0 ∧ f 4 = I e ∧ f 6 = Vr.sl A ∧ f 7 = I (totV (A.take i)) ∧ f 8 = I i ∧ i ≤ A.length)
    (fun i => A.length - i) (by kernel_rfl) 0 ⟨rfl, by simp, by simp, by simp, by simp, by simp [totV], by simp, by simp⟩ ?_
  rintro i f _ ⟨rfl, f1, f3, f4, f6, f7, f8, hi⟩
  simp -dsimp [f1, f3, f4, f6, f7, f8]
  refine condVW_introD (fun hlt => ?_) (fun hlt => ?_)
  · have hlt' : i < A.length := by omega
    have hx := List.getElem?_eq_getElem hlt'
    have hsx := hAs A[i] (List.getElem_mem hlt')
    have ht : A.take (i + 1) = A.take i ++ [A[i]] := List.take_succ_eq_append_getElem hlt'
    have hb := totV_bnd (l := A.take i) (fun v hv => hAs v (List.mem_of_mem_take hv))
    have hbl : (A.take i).length = i := by simp; omega
    obtain ⟨v, hv⟩ : ∃ v, v = A[i] := ⟨_, rfl⟩
    rw [← hv] at hx hsx ht
    obtain ⟨n, hn⟩ : ∃ n, n = totV (A.take i) := ⟨_, rfl⟩
    rw [← hn] at hb f7
    have w1 : IntKind.i64.wrap ((i : Int) + 1) = ((i + 1 : Nat) : Int) := wrapS (by omega)
    have w2 : IntKind.i64.wrap (8 * v.size) = 8 * v.size := wrapI (by omega) (by omega)
    have w3 : IntKind.i64.wrap (n + 8 * v.size) = n + 8 * v.size := wrapI (by omega) (by omega)
    have hT : totV (A.take (i + 1)) = n + 8 * v.size := by rw [ht, totV_app, ← hn]; simp [totV]
    simp -dsimp [f1, f3, f4, f6, f7, f8, hx, w2, w3]
    exact ⟨i + 1, by omega, hT.symm, w1, by omega⟩
  · have hti : A.take i = A := List.take_of_length_le (by omega)
    rw [hti] at f7
    clear f8
    obtain ⟨n, hn⟩ : ∃ n, n = totV A := ⟨_, rfl⟩
    rw [← hn] at hb f7 hlf
    have w2 : IntKind.i64.wrap (n + 15) = n + 15 := wrapI (by omega) (by omega)
    have d : (n + 15).tdiv 16 = (n + 15) / 16 := Int.tdiv_eq_ediv_of_nonneg (by omega)
    have w3 : IntKind.i64.wrap ((n + 15) / 16) = (n + 15) / 16 := wrapI (by omega) (by omega)
    have w4 : IntKind.i64.wrap ((n + 15) / 16 * 16) = up16 n := wrapI (by omega) (by omega)
    simp -dsimp [f1, f3, f4, f6, f7, w2, d, w3, w4]
    refine condVW_introD (fun hgt => ?_) (fun hgt => ?_)
    · rw [if_pos hgt] at hlf
      rw [hlf] at he hLp
      subst he
      subst hLp
      simp -dsimp [f3, f4, vN0]
      refine acallsW_det (ck _) ?_
      simp -dsimp
      exact hfin _
    rw [if_neg hgt] at hlf
    rw [hlf] at he hLp
    subst he
    have hfit := hl rfl
    have hLl : Lp.places.length = A.length := by rw [hLp]; exact laysV_len _ _
    have hLs : Lp.size = up16 n := by rw [hLp]
    have hLg : ∀ i, Lp.places[i]? = (A[i]?).map fun v => (⟨v.name, totV (A.take i), v.size⟩ : Pl) := fun i => by
      rw [hLp]; simp only; rw [laysV_get]; congr 1; funext w; rw [Int.zero_add]
    have cf := fun H => fits_ok p hp Lp (by omega) H
    rw [hfit] at cf
    simp only [Pg.cells, Ly.cells] at cf
    clear hLp
    simp -dsimp [f1, f3, f4, f6, vN0, hLl, hLs]
    refine loop_rule (hn := fun _ => false) (od := fun _ => none) (fun (i : Nat) f H' => H' = V [Blk.box 30 [Pl.sl Lp.places, I Lp.size]] ∧ f 1 = .bp H.length 0 ∧ f 3 = .bp (V []).length 0 ∧ f 6 = Vr.sl A ∧ f 9 = I (totV (A.take i)) ∧ f 10 = I i ∧ i ≤ A.length)
      (fun i => A.length - i) (by kernel_rfl) 0 ⟨by rw [hLs], by simp [f1], by simp [f3], by simp [f6], by simp [totV], by simp, by simp⟩ ?_
    clear f1 f3 f4 f6 f7
    rintro i f _ ⟨rfl, f1, f3, f6, f9, f10, hi⟩
    simp -dsimp [f1, f3, f6, f9, f10]
    refine condVW_introD (fun hlt => ?_) (fun hlt => ?_)
    · have hlt' : i < A.length := by omega
      have hx := List.getElem?_eq_getElem hlt'
      have hsx := hAs A[i] (List.getElem_mem hlt')
      have ht : A.take (i + 1) = A.take i ++ [A[i]] := List.take_succ_eq_append_getElem hlt'
      have hb := totV_bnd (l := A.take i) (fun v hv => hAs v (List.mem_of_mem_take hv))
      have hbl : (A.take i).length = i := by simp; omega
      have hg := hLg i
      obtain ⟨v, hv⟩ : ∃ v, v = A[i] := ⟨_, rfl⟩
      rw [← hv] at hx hsx ht
      rw [hx] at hg
      simp only [Option.map_some] at hg
      obtain ⟨m, hm⟩ : ∃ m, m = totV (A.take i) := ⟨_, rfl⟩
      rw [← hm] at hb f9 hg
      have w1 : IntKind.i64.wrap ((i : Int) + 1) = ((i + 1 : Nat) : Int) := wrapS (by omega)
      have w2 : IntKind.i64.wrap (8 * v.size) = 8 * v.size := wrapI (by omega) (by omega)
      have w3 : IntKind.i64.wrap (m + 8 * v.size) = m + 8 * v.size := wrapI (by omega) (by omega)
      have hT : totV (A.take (i + 1)) = m + 8 * v.size := by rw [ht, totV_app, ← hm]; simp [totV]
      simp -dsimp [f1, f3, f6, f9, f10, hx, hg, vN0, w2, w3]
      exact ⟨i + 1, by omega, hT.symm, w1, by omega⟩
    · simp -dsimp [f1, f3, v0, vN0]
      refine acallsW_det (cf _) ?_
      simp -dsimp
      refine acallsW_det (ck _) ?_
      simp -dsimp
      exact hfin _
end Go.Proofs
