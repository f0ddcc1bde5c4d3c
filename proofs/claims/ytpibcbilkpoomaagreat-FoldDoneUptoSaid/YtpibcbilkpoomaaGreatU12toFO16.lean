/- What a program uses: its functions. -/
import Derived.Test.YtpibcbilkpoomaaGreatU11toFO8
import Derived.Test.YtpibcbilkpoomaaGreatFO9toFO14
import Derived.Test.YtpibcbilkpoomaaGreatFwWtoG39
import Derived.Test.YtpibcbilkpoomaaGreatFwXtoLR
set_option linter.unusedVariables false
set_option linter.unusedSimpArgs false
set_option maxHeartbeats 4000000
set_option maxRecDepth 100000
namespace Go.Proofs
open Go.Mu
def fcsUse (k : Int) : List Fc → Bool
  | [] => false
  | f :: l => smsUses k f.body || fcsUse k l
def vrsUse (k : Int) : List Vr → Bool
  | [] => false
  | v :: l => v.kind == k || vrsUse k l
def fcsVar (k : Int) : List Fc → Bool
  | [] => false
  | f :: l => vrsUse k f.vars || fcsVar k l
structure Fo where
  (calls fors arrays stack : Bool)
@[simp] def Fo.cells (f : Fo) : List AV := [Bo f.calls, Bo f.fors, Bo f.arrays, Bo f.stack]
def formT (p : Pg) : Fo := ⟨decide (1 < p.funcs.length) || fcsUse 6 p.funcs, fcsUse 5 p.funcs, fcsVar 2 p.funcs, decide (0 < p.regions.length) || fcsVar 3 p.funcs⟩
def formE (p : Pg) : Fo := if mayE p = 0 then formT p else ⟨false, false, false, false⟩
def FormJ (M : Bool → Bool → Bool → Bool → List Blk → List Blk) (T : Fo) (l : List Fc) (H' : List Blk) : Prop := ∃ a b c d L, H' = M a b c d L ∧ (a || fcsUse 6 l) = T.calls ∧ (b || fcsUse 5 l) = T.fors ∧ (c || fcsVar 2 l) = T.arrays ∧ (d || fcsVar 3 l) = T.stack
def FormK (M : Bool → Bool → Bool → Bool → List Blk → List Blk) (a b C D ra rs : Bool) (B : Blk) (L : List Blk) (l : List Vr) (H' : List Blk) : Prop := ∃ c d L2, H' = M a b c d (L ++ B :: L2) ∧ (c || (vrsUse 2 l || ra)) = C ∧ (d || (vrsUse 3 l || rs)) = D
theorem form_ok (p : Pg) (hp : p.Ok2) (hc : ∀ f ∈ p.funcs, smsCount f.body ≤ 2^36) (hv : ∀ f ∈ p.funcs, f.vars.length ≤ 2^36) (hfl : p.funcs.length ≤ 2^36) (hrl : p.regions.length ≤ 2^36) (H : List Blk) : ACalls Tryz.prog 66 [.agg p.cells] H (fun e H' => e = .ret (.agg (formE p).cells) ∧ H' = H) := by
  refine acalls_tidy (acalls_of_awp Tryz.func66 rfl (by kernel_rfl) ?_)
  obtain ⟨bP, hbP⟩ : ∃ bP, bP = Blk.box 25 [Rg.sl p.regions, Fc.sl p.funcs] := ⟨_, rfl⟩
  refine awp_cut (fun _ => false) (fun _ => none) (fun f H' => H' = H ++ [bP, formB false false false false] ∧ f 1 = .bp H.length 0 ∧ f 2 = .bp (H.length + 1) 0) (by kernel_rfl) ?_ ?_
  · rw [hbP]
    simp -dsimp
  rintro g _ ⟨rfl, g1, g2⟩
  refine awp_cut (fun _ => false) (fun _ => none) (fun f H' => H' = H ++ [bP, formB false false false false, formB false false false false] ∧ f 1 = .bp H.length 0 ∧ f 2 = .bp (H.length + 1) 0 ∧ f 3 = .bp (H.length + 2) 0) (by kernel_rfl) ?_ ?_
  · simp -dsimp [g1, g2]
  clear g g1 g2
  rintro g _ ⟨rfl, g1, g2, g3⟩
  obtain ⟨V, hV⟩ : ∃ V, V = H ++ [bP, formB false false false false, formB false false false false] := ⟨_, rfl⟩
  have hV0 : V[H.length]? = some (.box 25 [Rg.sl p.regions, Fc.sl p.funcs]) := by rw [hV, ← hbP]; simp
  have hV1 : V[H.length + 1]? = some (formB false false false false) := by rw [hV]; simp
  have hV2 : V[H.length + 2]? = some (formB false false false false) := by rw [hV]; simp
  have hVs : V.set (H.length + 1) (formB false false false false) = V := by rw [hV]; simp
  have fin : ∀ L e H', e = AE.ret (.agg (formE p).cells) → H' = H ++ L → Tidy H (fun e H' => e = .ret (.agg (formE p).cells) ∧ H' = H) e H' := fun L e H' h1 h2 => by
    rw [h1, h2]; exact tidy_same rfl ⟨rfl, rfl⟩
  rw [← hV]
  have cm := fun H => may_ok p hp H
  simp only [Pg.cells] at cm
  refine awp_cut (fun _ => false) (fun _ => none) (fun f H' => V = H' ∧ f 1 = .bp H.length 0 ∧ f 2 = .bp (H.length + 1) 0 ∧ f 3 = .bp (H.length + 2) 0 ∧ mayE p = 0) (by kernel_rfl) ?_ ?_
  · simp -dsimp [g1, g2, g3, hV0]
    refine acallsW_det (cm _) ?_
    simp -dsimp
    refine condVW_introNE (fun h1 h1a h1b => ?_) (fun h1 => ?_)
    · simp -dsimp [g1, g2, g3, hV0, hV1, hV2, hVs]
      exact fin _ _ _ (by rw [formE, if_neg h1]; rfl) hV
    · simp -dsimp [g1, g2, g3]
      exact h1
  clear g g1 g2 g3
  rintro g _ ⟨rfl, g1, g2, g3, hmay⟩
  obtain ⟨bW, hbW⟩ : ∃ bW, bW = Blk.box 108 [.fn (.func 111) [] [.bp (H.length + 2) 0, .bp (H.length + 3) 0]] := ⟨_, rfl⟩
  obtain ⟨M, hM⟩ : ∃ M : Bool → Bool → Bool → Bool → List Blk → List Blk, M = fun a b c d L => H ++ bP :: formB false false false false :: formB a b c d :: bW :: L := ⟨_, rfl⟩
  have hMe : ∀ a b c d L, M a b c d L = H ++ bP :: formB false false false false :: formB a b c d :: bW :: L := fun a b c d L => by rw [hM]
  have hMa : ∀ a b c d L R, M a b c d L ++ R = M a b c d (L ++ R) := fun a b c d L R => by rw [hMe, hMe]; simp
  have hMl : ∀ a b c d L, (M a b c d L).length = H.length + 4 + L.length := fun a b c d L => by rw [hMe]; simp; omega
  have m0 : ∀ a b c d L, (M a b c d L)[H.length]? = some (.box 25 [Rg.sl p.regions, Fc.sl p.funcs]) := fun a b c d L => by rw [hMe, ← hbP]; simp
  have m1 : ∀ a b c d L, (M a b c d L)[H.length + 1]? = some (formB false false false false) := fun a b c d L => by rw [hMe]; simp
  have m2 : ∀ a b c d L, (M a b c d L)[H.length + 2]? = some (formB a b c d) := fun a b c d L => by rw [hMe]; simp
  have m3 : ∀ a b c d L, (M a b c d L)[H.length + 3]? = some (.box 108 [.fn (.func 111) [] [.bp (H.length + 2) 0, .bp (H.length + 3) 0]]) := fun a b c d L => by rw [hMe, ← hbW]; simp
  have mN : ∀ a b c d L i, (M a b c d L)[H.length + 4 + i]? = L[i]? := fun a b c d L i => by
    rw [hMe, List.getElem?_append_right (by omega), show H.length + 4 + i - H.length = i + 1 + 1 + 1 + 1 from by omega]; rfl
  have ms : ∀ a b c d a' b' c' d' L, (M a b c d L).set (H.length + 2) (formB a' b' c' d') = M a' b' c' d' L := fun a b c d a' b' c' d' L => by rw [hMe, hMe]; simp
  clear hM
  have hfin : ∀ a b c d L, (⟨a, b, c, d⟩ : Fo) = formT p → ∃ L', M a b c d L = H ++ L' := fun a b c d L _ => ⟨_, hMe _ _ _ _ _⟩
  obtain ⟨z, hz⟩ : ∃ z, z = formB false false false false := ⟨_, rfl⟩
  obtain ⟨b1, hb1⟩ : ∃ b1, b1 = decide (1 < p.funcs.length) := ⟨_, rfl⟩
  obtain ⟨b4, hb4⟩ : ∃ b4, b4 = decide (0 < p.regions.length) := ⟨_, rfl⟩
  have e1 : decide ((1 : Int) < p.funcs.length) = b1 := by rw [hb1]; by_cases h : 1 < p.funcs.length <;> simp [h] <;> omega
  have e4 : decide ((0 : Int) < p.regions.length) = b4 := by rw [hb4]; by_cases h : 0 < p.regions.length <;> simp [h] <;> omega
  refine awp_cut (fun _ => false) (fun _ => none) (fun f H' => H' = H ++ [bP, z, formB b1 false false false] ∧ f 1 = .bp H.length 0 ∧ f 2 = .bp (H.length + 1) 0 ∧ f 3 = .bp (H.length + 2) 0) (by kernel_rfl) ?_ ?_
  · have hVt : ∀ X, V.set (H.length + 2) X = H ++ [bP, z, X] := fun X => by rw [hV, hz]; simp
    simp -dsimp [g1, g2, g3, hV0, hV2, hVt, e1]
  clear g g1 g2 g3 hV hV0 hV1 hV2 hVs V
  rintro g _ ⟨rfl, g1, g2, g3⟩
  obtain ⟨V, hV⟩ : ∃ V, V = H ++ [bP, z, formB b1 false false false] := ⟨_, rfl⟩
  have hV0 : V[H.length]? = some (.box 25 [Rg.sl p.regions, Fc.sl p.funcs]) := by rw [hV, ← hbP]; simp
  have hV2 : V[H.length + 2]? = some (formB b1 false false false) := by rw [hV]; simp
  have hVt : ∀ X, V.set (H.length + 2) X = H ++ [bP, z, X] := fun X => by rw [hV]; simp
  rw [← hV]
  refine awp_cut (fun _ => false) (fun _ => none) (fun f H' => H' = H ++ [bP, z, formB b1 false false b4] ∧ f 1 = .bp H.length 0 ∧ f 2 = .bp (H.length + 1) 0 ∧ f 3 = .bp (H.length + 2) 0) (by kernel_rfl) ?_ ?_
  · simp -dsimp [g1, g2, g3, hV0, hV2, hVt, e4, hb4.symm]
  clear g g1 g2 g3 hV hV0 hV2 hVt V
  rintro g _ ⟨rfl, g1, g2, g3⟩
  obtain ⟨x3, hx3⟩ : ∃ x3, x3 = formB b1 false false b4 := ⟨_, rfl⟩
  rw [← hx3]
  refine awp_cut (fun _ => false) (fun _ => none) (fun f H' => H' = H ++ [bP, z, x3, .box 108 [.v .nilFunc]] ∧ f 1 = .bp H.length 0 ∧ f 2 = .bp (H.length + 1) 0 ∧ f 3 = .bp (H.length + 2) 0 ∧ f 4 = .bp (H.length + 3) 0) (by kernel_rfl) ?_ ?_
  · simp -dsimp [g1, g2, g3]
  clear g g1 g2 g3
  rintro g _ ⟨rfl, g1, g2, g3, g4⟩
  refine awp_cut (fun _ => false) (fun _ => none) (fun f H' => H' = M b1 false false b4 [] ∧ f 1 = .bp H.length 0 ∧ f 2 = .bp (H.length + 1) 0 ∧ f 3 = .bp (H.length + 2) 0 ∧ f 4 = .bp (H.length + 3) 0) (by kernel_rfl) ?_ ?_
  · rw [hMe, ← hz, ← hx3, hbW]
    simp -dsimp [g1, g2, g3, g4]
  clear g g1 g2 g3 g4 hx3 x3
  rw [← hz] at hMe
  clear hz
  rintro g _ ⟨rfl, g1, g2, g3, g4⟩
  -- functions
  refine awp_cutA (fun f H' => FormJ M (formT p) [] H' ∧ f 2 = .bp (H.length + 1) 0 ∧ f 3 = .bp (H.length + 2) 0) ?_ ?_
  rotate_left
  · clear g g1 g2 g3 g4
    rintro g _ ⟨⟨a, b, c, d, L, rfl, h1, h2, h3, h4⟩, g2, g3⟩
    simp only [fcsUse, fcsVar, Bool.or_false] at h1 h2 h3 h4
    refine awp_all (fun _ => false) (fun _ => none) (by kernel_rfl) ?_
    have q1 : ∀ X, ((M a b c d L).set (H.length + 1) X)[H.length + 1]? = some X := fun X => by rw [List.getElem?_set_self (by rw [hMl]; omega)]
    have q2 : ∀ X, ∃ L', (M a b c d L).set (H.length + 1) X = H ++ L' := fun X => ⟨bP :: X :: formB a b c d :: bW :: L, by rw [hMe]; simp⟩
    simp -dsimp [g2, g3, m2, m1, q1]
    obtain ⟨L', hL'⟩ := q2 (formB a b c d)
    rw [hL', h1, h2, h3, h4]
    refine tidy_same rfl ⟨?_, rfl⟩
    rw [formE, if_pos hmay]
  refine awp_cut (fun _ => false) (fun _ => none) (fun f H' => H' = M b1 false false b4 [] ∧ f 2 = .bp (H.length + 1) 0 ∧ f 3 = .bp (H.length + 2) 0 ∧ f 4 = .bp (H.length + 3) 0 ∧ f 25 = Fc.sl p.funcs ∧ f 26 = I p.funcs.length ∧ f 27 = I 0) (by kernel_rfl) ?_ ?_
  · simp -dsimp [g1, g2, g3, g4, m0]
  clear g g1 g2 g3 g4
  rintro g _ ⟨rfl, g2, g3, g4, g25, g26, g27⟩
  refine awp_block ?_
  refine awp_loopI (fun (i : Nat) f H' => FormJ M (formT p) (p.funcs.drop i) H' ∧ f 2 = .bp (H.length + 1) 0 ∧ f 3 = .bp (H.length + 2) 0 ∧ f 4 = .bp (H.length + 3) 0 ∧ f 25 = Fc.sl p.funcs ∧ f 26 = I p.funcs.length ∧ f 27 = I i ∧ i ≤ p.funcs.length) (fun i => p.funcs.length - i) 0
    ⟨⟨b1, false, false, b4, [], rfl, by rw [hb1]; rfl, rfl, rfl, by rw [hb4]; rfl⟩, g2, g3, g4, g25, g26, g27, by omega⟩ ?_
  clear g g2 g3 g4 g25 g26 g27
  rintro i g _ ⟨⟨a, b, c, d, L, rfl, h1, h2, h3, h4⟩, g2, g3, g4, g25, g26, g27, hi⟩
  refine awp_cut (fun _ => false) (fun _ => none) (fun f H' => H' = M a b c d L ∧ f 2 = .bp (H.length + 1) 0 ∧ f 3 = .bp (H.length + 2) 0 ∧ f 4 = .bp (H.length + 3) 0 ∧ f 25 = Fc.sl p.funcs ∧ f 26 = I p.funcs.length ∧ f 27 = I i ∧ f 28 = Bo (decide ((i : Int) < p.funcs.length))) (by kernel_rfl) ?_ ?_
  · simp -dsimp [g2, g3, g4, g25, g26, g27]
  clear g g2 g3 g4 g25 g26 g27
  rintro g _ ⟨rfl, g2, g3, g4, g25, g26, g27, g28⟩
  refine awp_cut (fun _ => false) (fun _ => none) (fun f H' => H' = M a b c d L ∧ f 2 = .bp (H.length + 1) 0 ∧ f 3 = .bp (H.length + 2) 0 ∧ f 4 = .bp (H.length + 3) 0 ∧ f 25 = Fc.sl p.funcs ∧ f 26 = I p.funcs.length ∧ f 27 = I i ∧ i < p.funcs.length) (by kernel_rfl) ?_ ?_
  · simp -dsimp [g28]
    refine condVW_introD (fun hlt => ?_) (fun hlt => ?_)
    · simp -dsimp [g2, g3, g4, g25, g26, g27]
      omega
    · rw [drop_end hlt] at h1 h2 h3 h4
      simp -dsimp [g2, g3]
      exact ⟨a, b, c, d, L, rfl, h1, h2, h3, h4⟩
  clear g g2 g3 g4 g25 g26 g27 g28
  rintro g _ ⟨rfl, g2, g3, g4, g25, g26, g27, hlt⟩
  have hlx : p.funcs[i]? = some p.funcs[i] := List.getElem?_eq_getElem hlt
  have hmx := List.getElem_mem hlt
  rw [drop_cons hlt] at h1 h2 h3 h4
  obtain ⟨x, hx⟩ : ∃ x, x = p.funcs[i] := ⟨_, rfl⟩
  rw [← hx] at hlx hmx h1 h2 h3 h4
  clear hx
  have hxc := hc x hmx
  have hxv := hv x hmx
  rw [fcsUse] at h1 h2
  rw [fcsVar] at h3 h4
  refine awp_cutA (fun f H' => FormJ M (formT p) (p.funcs.drop (i + 1)) H' ∧ f 2 = .bp (H.length + 1) 0 ∧ f 3 = .bp (H.length + 2) 0 ∧ f 4 = .bp (H.length + 3) 0 ∧ f 25 = Fc.sl p.funcs ∧ f 26 = I p.funcs.length ∧ f 27 = I i) ?_ ?_
  rotate_left
  · clear g g2 g3 g4 g25 g26 g27
    rintro g H' ⟨ho, g2, g3, g4, g25, g26, g27⟩
    replace ho := Hid.mk ho
    refine awp_all (fun _ => false) (fun _ => none) (by kernel_rfl) ?_
    simp -dsimp [g2, g3, g4, g25, g26, g27]
    exact ⟨i + 1, by omega, ho.out, wrapS (by omega), by omega⟩
  refine awp_block ?_
  obtain ⟨k, hk⟩ : ∃ k, k = (M a b c d L).length := ⟨_, rfl⟩
  obtain ⟨bF, hbF⟩ : ∃ bF, bF = Blk.box 56 [St x.name, Vr.sl x.params, Vr.sl x.vars, St.sl x.rets, Sm.sl x.body] := ⟨_, rfl⟩
  refine awp_cut (fun _ => false) (fun _ => none) (fun f H' => H' = M a b c d L ++ [bF] ∧ f 2 = .bp (H.length + 1) 0 ∧ f 3 = .bp (H.length + 2) 0 ∧ f 4 = .bp (H.length + 3) 0 ∧ f 25 = Fc.sl p.funcs ∧ f 26 = I p.funcs.length ∧ f 27 = I i ∧ f 6 = .bp k 0) (by kernel_rfl) ?_ ?_
  · rw [hbF, hk]
    simp -dsimp [g2, g3, g4, g25, g26, g27, hlx]
  clear g g2 g3 g4 g25 g26 g27
  rintro g _ ⟨rfl, g2, g3, g4, g25, g26, g27, g6⟩
  rw [hMa]
  rw [hMl] at hk
  have gF : ∀ a b c d R, (M a b c d (L ++ bF :: R))[k]? = some (.box 56 [St x.name, Vr.sl x.params, Vr.sl x.vars, St.sl x.rets, Sm.sl x.body]) := fun a b c d R => by rw [hk, mN, ← hbF]; simp
  clear hk
  refine awp_cutA (fun f H' => FormK M a b (formT p).arrays (formT p).stack (fcsVar 2 (p.funcs.drop (i + 1))) (fcsVar 3 (p.funcs.drop (i + 1))) bF L [] H' ∧ f 2 = .bp (H.length + 1) 0 ∧ f 3 = .bp (H.length + 2) 0 ∧ f 4 = .bp (H.length + 3) 0 ∧ f 25 = Fc.sl p.funcs ∧ f 26 = I p.funcs.length ∧ f 27 = I i ∧ f 6 = .bp k 0) ?_ ?_
  · refine awp_cut (fun _ => false) (fun _ => none) (fun f H' => H' = M a b c d (L ++ [bF]) ∧ f 2 = .bp (H.length + 1) 0 ∧ f 3 = .bp (H.length + 2) 0 ∧ f 4 = .bp (H.length + 3) 0 ∧ f 25 = Fc.sl p.funcs ∧ f 26 = I p.funcs.length ∧ f 27 = I i ∧ f 6 = .bp k 0 ∧ f 32 = Vr.sl x.vars ∧ f 33 = I x.vars.length ∧ f 34 = I 0) (by kernel_rfl) ?_ ?_
    · simp -dsimp [g2, g3, g4, g25, g26, g27, g6, gF]
    clear g g2 g3 g4 g25 g26 g27 g6
    rintro g _ ⟨rfl, g2, g3, g4, g25, g26, g27, g6, g32, g33, g34⟩
    refine awp_block ?_
    refine awp_loopI (fun (j : Nat) f H' => FormK M a b (formT p).arrays (formT p).stack (fcsVar 2 (p.funcs.drop (i + 1))) (fcsVar 3 (p.funcs.drop (i + 1))) bF L (x.vars.drop j) H' ∧ f 2 = .bp (H.length + 1) 0 ∧ f 3 = .bp (H.length + 2) 0 ∧ f 4 = .bp (H.length + 3) 0 ∧ f 25 = Fc.sl p.funcs ∧ f 26 = I p.funcs.length ∧ f 27 = I i ∧ f 6 = .bp k 0 ∧ f 32 = Vr.sl x.vars ∧ f 33 = I x.vars.length ∧ f 34 = I j ∧ j ≤ x.vars.length) (fun j => x.vars.length - j) 0
      ⟨⟨c, d, [], rfl, h3, h4⟩, g2, g3, g4, g25, g26, g27, g6, g32, g33, g34, by omega⟩ ?_
    clear g g2 g3 g4 g25 g26 g27 g6 g32 g33 g34 h3 h4 c d
    rintro j g _ ⟨⟨c, d, L2, rfl, h3, h4⟩, g2, g3, g4, g25, g26, g27, g6, g32, g33, g34, hj⟩
    refine awp_cut (fun _ => false) (fun _ => none) (fun f H' => H' = M a b c d (L ++ bF :: L2) ∧ f 2 = .bp (H.length + 1) 0 ∧ f 3 = .bp (H.length + 2) 0 ∧ f 4 = .bp (H.length + 3) 0 ∧ f 25 = Fc.sl p.funcs ∧ f 26 = I p.funcs.length ∧ f 27 = I i ∧ f 6 = .bp k 0 ∧ f 32 = Vr.sl x.vars ∧ f 33 = I x.vars.length ∧ f 34 = I j ∧ f 35 = Bo (decide ((j : Int) < x.vars.length))) (by kernel_rfl) ?_ ?_
    · simp -dsimp [g2, g3, g4, g25, g26, g27, g6, g32, g33, g34]
    clear g g2 g3 g4 g25 g26 g27 g6 g32 g33 g34
    rintro g _ ⟨rfl, g2, g3, g4, g25, g26, g27, g6, g32, g33, g34, g35⟩
    refine awp_cut (fun _ => false) (fun _ => none) (fun f H' => H' = M a b c d (L ++ bF :: L2) ∧ f 2 = .bp (H.length + 1) 0 ∧ f 3 = .bp (H.length + 2) 0 ∧ f 4 = .bp (H.length + 3) 0 ∧ f 25 = Fc.sl p.funcs ∧ f 26 = I p.funcs.length ∧ f 27 = I i ∧ f 6 = .bp k 0 ∧ f 32 = Vr.sl x.vars ∧ f 33 = I x.vars.length ∧ f 34 = I j ∧ j < x.vars.length) (by kernel_rfl) ?_ ?_
    · simp -dsimp [g35]
      refine condVW_introD (fun hlt2 => ?_) (fun hlt2 => ?_)
      · simp -dsimp [g2, g3, g4, g25, g26, g27, g6, g32, g33, g34]
        omega
      · rw [drop_end hlt2] at h3 h4
        simp -dsimp [g2, g3, g4, g25, g26, g27, g6]
        exact ⟨c, d, L2, rfl, h3, h4⟩
    clear g g2 g3 g4 g25 g26 g27 g6 g32 g33 g34 g35
    rintro g _ ⟨rfl, g2, g3, g4, g25, g26, g27, g6, g32, g33, g34, hlt2⟩
    have hly : x.vars[j]? = some x.vars[j] := List.getElem?_eq_getElem hlt2
    rw [drop_cons hlt2, vrsUse] at h3 h4
    obtain ⟨y, hy⟩ : ∃ y, y = x.vars[j] := ⟨_, rfl⟩
    rw [← hy] at hly h3 h4
    clear hy
    refine awp_cutA (fun f H' => FormK M a b (formT p).arrays (formT p).stack (fcsVar 2 (p.funcs.drop (i + 1))) (fcsVar 3 (p.funcs.drop (i + 1))) bF L (x.vars.drop (j + 1)) H' ∧ f 2 = .bp (H.length + 1) 0 ∧ f 3 = .bp (H.length + 2) 0 ∧ f 4 = .bp (H.length + 3) 0 ∧ f 25 = Fc.sl p.funcs ∧ f 26 = I p.funcs.length ∧ f 27 = I i ∧ f 6 = .bp k 0 ∧ f 32 = Vr.sl x.vars ∧ f 33 = I x.vars.length ∧ f 34 = I j) ?_ ?_
    rotate_left
    · clear g g2 g3 g4 g25 g26 g27 g6 g32 g33 g34
      rintro g H' ⟨ho, g2, g3, g4, g25, g26, g27, g6, g32, g33, g34⟩
      replace ho := Hid.mk ho
      refine awp_all (fun _ => false) (fun _ => none) (by kernel_rfl) ?_
      simp -dsimp [g2, g3, g4, g25, g26, g27, g6, g32, g33, g34]
      exact ⟨j + 1, by omega, ho.out, wrapS (by omega), by omega⟩
    refine awp_block ?_
    obtain ⟨u, hu⟩ : ∃ u, u = (M a b c d (L ++ bF :: L2)).length := ⟨_, rfl⟩
    obtain ⟨bY, hbY⟩ : ∃ bY, bY = Blk.box 120 [St y.name, I y.kind, I y.size, Bo y.secret] := ⟨_, rfl⟩
    refine awp_cut (fun _ => false) (fun _ => none) (fun f H' => H' = M a b c d (L ++ bF :: L2) ++ [bY] ∧ f 2 = .bp (H.length + 1) 0 ∧ f 3 = .bp (H.length + 2) 0 ∧ f 4 = .bp (H.length + 3) 0 ∧ f 25 = Fc.sl p.funcs ∧ f 26 = I p.funcs.length ∧ f 27 = I i ∧ f 6 = .bp k 0 ∧ f 32 = Vr.sl x.vars ∧ f 33 = I x.vars.length ∧ f 34 = I j ∧ f 8 = .bp u 0) (by kernel_rfl) ?_ ?_
    · rw [hbY, hu]
      simp -dsimp [g2, g3, g4, g25, g26, g27, g6, g32, g33, g34, hly]
    clear g g2 g3 g4 g25 g26 g27 g6 g32 g33 g34
    rintro g _ ⟨rfl, g2, g3, g4, g25, g26, g27, g6, g32, g33, g34, g8⟩
    rw [hMa, List.append_assoc, List.cons_append]
    rw [hMl] at hu
    have gY : ∀ a b c d, (M a b c d (L ++ bF :: (L2 ++ [bY])))[u]? = some (.box 120 [St y.name, I y.kind, I y.size, Bo y.secret]) := fun a b c d => by
      rw [hu, mN, ← hbY, List.getElem?_append_right (by simp), List.length_append, Nat.add_sub_cancel_left, List.length_cons, List.getElem?_cons_succ, List.getElem?_append_right (Nat.le_refl _), Nat.sub_self]; rfl
    obtain ⟨L3, hL3⟩ : ∃ L3, L3 = L2 ++ [bY] := ⟨_, rfl⟩
    rw [← hL3] at gY ⊢
    refine awp_cut (fun _ => false) (fun _ => none) (fun f H' => H' = M a b (c || y.kind == 2) d (L ++ bF :: L3) ∧ f 2 = .bp (H.length + 1) 0 ∧ f 3 = .bp (H.length + 2) 0 ∧ f 4 = .bp (H.length + 3) 0 ∧ f 25 = Fc.sl p.funcs ∧ f 26 = I p.funcs.length ∧ f 27 = I i ∧ f 6 = .bp k 0 ∧ f 32 = Vr.sl x.vars ∧ f 33 = I x.vars.length ∧ f 34 = I j ∧ f 8 = .bp u 0) (by kernel_rfl) ?_ ?_
    · clear h3 h4
      cases c <;> simp -dsimp [g2, g3, g4, g25, g26, g27, g6, g32, g33, g34, g8, m2, gY, ms]
    clear g g2 g3 g4 g25 g26 g27 g6 g32 g33 g34 g8
    rintro g _ ⟨rfl, g2, g3, g4, g25, g26, g27, g6, g32, g33, g34, g8⟩
    obtain ⟨c2, hc2⟩ : ∃ c2, c2 = (c || y.kind == 2) := ⟨_, rfl⟩
    rw [← hc2]
    have h3' : (c2 || (vrsUse 2 (x.vars.drop (j + 1)) || fcsVar 2 (p.funcs.drop (i + 1)))) = (formT p).arrays := by rw [← h3, hc2]; simp only [Bool.or_assoc]
    have h4' : ((d || y.kind == 3) || (vrsUse 3 (x.vars.drop (j + 1)) || fcsVar 3 (p.funcs.drop (i + 1)))) = (formT p).stack := by rw [← h4]; simp only [Bool.or_assoc]
    have hdone : FormK M a b (formT p).arrays (formT p).stack (fcsVar 2 (p.funcs.drop (i + 1))) (fcsVar 3 (p.funcs.drop (i + 1))) bF L (x.vars.drop (j + 1)) (M a b c2 (d || y.kind == 3) (L ++ bF :: L3)) := ⟨c2, _, L3, rfl, h3', h4'⟩
    clear h3 h4 h3' h4' h1 h2
    replace hdone := Hid.mk hdone
    refine awp_all (fun _ => false) (fun _ => none) (by kernel_rfl) ?_
    cases d
    · simp -dsimp [g2, g3, g4, g25, g26, g27, g6, g32, g33, g34, g8, m2, gY, ms]
      have := hdone.out
      rwa [Bool.false_or] at this
    · simp -dsimp [g2, g3, g4, g25, g26, g27, g6, g32, g33, g34, g8, m2, gY, ms]
      have := hdone.out
      rwa [Bool.true_or] at this
  · clear g g2 g3 g4 g25 g26 g27 g6 h3 h4 c d
    rintro g _ ⟨⟨c, d, L2, rfl, h3, h4⟩, g2, g3, g4, g25, g26, g27, g6⟩
    simp only [vrsUse, Bool.false_or] at h3 h4
    have cw := fun L => form1_ok _ x.body a b c d (Nat.lt_succ_self _) hxc (M a b c d L) (H.length + 2) (H.length + 3) (by omega) (m2 _ _ _ _ _) (m3 _ _ _ _ _)
    simp only [ms] at cw
    refine awp_all (fun _ => false) (fun _ => none) (by kernel_rfl) ?_
    simp -dsimp [g2, g3, g4, g25, g26, g27, g6, m3, gF]
    refine acallsW_of (cw _) ?_
    rintro e _ ⟨rfl, rfl⟩
    simp -dsimp [g2, g3, g4, g25, g26, g27]
    refine ⟨_, _, c, d, _, rfl, ?_, ?_, h3, h4⟩
    · rw [← h1]; simp only [Bool.or_assoc]
    · rw [← h2]; simp only [Bool.or_assoc]
end Go.Proofs
namespace Go.Proofs
open Go.Mu
mutual
def Sm.fOk (K : List ByteArray) : Sm → Bool
  | .mk k n _ _ _ _ _ _ b el => (decide (1 ≤ k) && decide (k ≤ 4)) && (decide (k ≠ 1) || K.any (fun x => decide (n = x))) && smsFOk K b && smsFOk K el
def smsFOk (K : List ByteArray) : List Sm → Bool
  | [] => true
  | s :: l => s.fOk K && smsFOk K l
end
theorem Sm.fOk_eq (K : List ByteArray) (s : Sm) : s.fOk K = ((decide (1 ≤ s.kind) && decide (s.kind ≤ 4)) && (decide (s.kind ≠ 1) || K.any (fun x => decide (s.name = x))) && smsFOk K s.body && smsFOk K s.els) := by cases s; rw [Sm.fOk]; rfl
structure FOk (K : List ByteArray) (s : Sm) : Prop where
  lo : 1 ≤ s.kind
  hi : s.kind ≤ 4
  name : s.kind = 1 → s.name ∈ K
  body : smsFOk K s.body = true
  els : smsFOk K s.els = true
theorem any_is {n : ByteArray} {K : List ByteArray} : (K.any fun x => decide (n = x)) = true ↔ n ∈ K := by
  rw [List.any_eq_true]
  constructor
  · rintro ⟨x, hx, h⟩; rw [of_decide_eq_true h]; exact hx
  · intro h; exact ⟨n, h, decide_eq_true rfl⟩
theorem fOk_iff {K : List ByteArray} {s : Sm} : s.fOk K = true ↔ FOk K s := by
  rw [Sm.fOk_eq]
  simp only [Bool.and_eq_true, Bool.or_eq_true, decide_eq_true_eq, any_is]
  constructor
  · rintro ⟨⟨⟨⟨a, b⟩, c⟩, d⟩, e⟩
    exact ⟨a, b, fun h => c.resolve_left (fun q => q h), d, e⟩
  · rintro ⟨a, b, c, d, e⟩
    refine ⟨⟨⟨⟨a, b⟩, ?_⟩, d⟩, e⟩
    by_cases h : s.kind = 1
    · exact .inr (c h)
    · exact .inl h
theorem fok_mem {K : List ByteArray} : ∀ {l : List Sm}, smsFOk K l = true → ∀ s ∈ l, FOk K s
  | s :: l, h, x, hx => by
    rw [smsFOk, Bool.and_eq_true, fOk_iff] at h
    rcases List.mem_cons.1 hx with rfl | hx
    · exact h.1
    · exact fok_mem h.2 x hx
theorem fok_of {K : List ByteArray} : ∀ {l : List Sm}, (∀ s ∈ l, FOk K s) → smsFOk K l = true
  | [], _ => rfl
  | s :: l, h => by
    rw [smsFOk, Bool.and_eq_true, fOk_iff]
    exact ⟨h s (List.mem_cons_self ..), fok_of fun x hx => h x (List.mem_cons_of_mem _ hx)⟩
theorem fok_sets (K : List ByteArray) (m : Nat) : ∀ l : List Sm, smsCount l ≤ m → smsFOk K l = true → ∀ n ∈ smsSets l, n ∈ K := by
  induction m with
  | zero => intro l hl _ n hn; have := sms_len l; obtain rfl : l = [] := List.eq_nil_of_length_eq_zero (by omega); simp [smsSets] at hn
  | succ m ih =>
    intro l
    induction l with
    | nil => intro _ _ n hn; simp [smsSets] at hn
    | cons s l ihl =>
      intro h hk n hn
      simp only [smsCount] at h
      have hc := Sm.count_eq s
      rw [smsFOk, Bool.and_eq_true, fOk_iff] at hk
      rw [smsSets, Sm.sets_eq] at hn
      obtain ⟨h1, h2⟩ := hk
      have := h1.hi
      simp only [List.mem_append] at hn
      rcases hn with ((hn | hn) | hn) | hn
      · by_cases hk1 : s.kind = 1
        · rw [if_pos (.inl hk1), List.mem_singleton] at hn
          rw [hn]; exact h1.name hk1
        · rw [if_neg (by omega), if_neg (by omega)] at hn; cases hn
      · exact ih s.body (by omega) h1.body n hn
      · exact ih s.els (by omega) h1.els n hn
      · exact ihl (by omega) h2 n hn
theorem fold_fok (K : List ByteArray) (m : Nat) : ∀ (l : List Sm) (E : KEnv), smsCount l ≤ m → smsFOk K l = true → smsFOk K (smsFold l E).1 = true := by
  induction m with
  | zero => intro l E hl _; have := sms_len l; obtain rfl : l = [] := List.eq_nil_of_length_eq_zero (by omega); simp [smsFold, smsFOk]
  | succ m ih =>
    intro l
    induction l with
    | nil => intro E _ _; simp [smsFold, smsFOk]
    | cons s l ihl =>
      intro E h hk
      simp only [smsCount] at h
      have hc := Sm.count_eq s
      rw [smsFOk, Bool.and_eq_true, fOk_iff] at hk
      obtain ⟨h1, h2⟩ := hk
      have hr := ihl (s.fold E).2.2 (by omega) h2
      rw [smsFold]
      have hs : smsFOk K (s.fold E).1 = true := by
        have hb := fun E => ih s.body E (by omega) h1.body
        have he := fun E => ih s.els E (by omega) h1.els
        have one : ∀ y : Sm, FOk K y → smsFOk K [y] = true := fun y hy => fok_of fun z hz => by rw [List.mem_singleton.1 hz]; exact hy
        rw [Sm.fold_eq, Sm.foldE]
        split
        · exact one _ ⟨h1.lo, h1.hi, h1.name, h1.body, h1.els⟩
        · split
          · exact one _ ⟨h1.lo, h1.hi, h1.name, h1.body, h1.els⟩
          · split
            · split
              · split
                · exact he E
                · exact hb E
              · exact one _ ⟨h1.lo, h1.hi, h1.name, hb _, he _⟩
            · split
              · exact one _ ⟨h1.lo, h1.hi, h1.name, hb _, h1.els⟩
              · exact one _ h1
      exact fok_of fun x hx => (List.mem_append.1 hx).elim (fok_mem hs x) (fok_mem hr x)
theorem uses_one {k : Int} {s : Sm} (h : s.uses k = false) : s.kind ≠ k ∧ smsUses k s.body = false ∧ smsUses k s.els = false := by
  rw [Sm.uses_eq] at h
  simp only [Bool.or_eq_false_iff, beq_eq_false_iff_ne] at h
  exact ⟨h.1, h.2.1, h.2.2⟩
theorem vars_in (n : ByteArray) (v : Vr) : ∀ (l : List Vr) (t : List (ByteArray × Vr)), alook n (l.foldl (fun t v => aset v.name v t) t) = some v → n ∈ l.map Vr.name ∨ alook n t = some v := by
  intro l
  induction l with
  | nil => intro t h; exact .inr h
  | cons x l ih =>
    intro t h
    rcases ih _ h with h | h
    · exact .inl (List.mem_cons_of_mem _ h)
    · rw [alook_set] at h
      split at h
      · rename_i e; exact .inl (by rw [e]; exact List.mem_cons_self ..)
      · exact .inr h
theorem word_in {l : List Vr} {ta : List (ByteArray × Bool)} {n : ByteArray} (h : wordE (varsT l) ta n = 0) : n ∈ l.map Vr.name := by
  unfold wordE at h
  have h := mustE_0 (by decide) (thenE_0 h).2
  rw [Bool.and_eq_true] at h
  have h1 := h.1
  unfold isV at h1
  obtain ⟨v, hv⟩ := Option.isSome_iff_exists.1 h1
  rcases vars_in n v l [] hv with h | h
  · exact h
  · simp [alook] at h
theorem chk_fok (vs : List Vr) (m : Nat) : ∀ l : List Sm, smsCount l ≤ m → ∀ (p : Pg) (f : Int) (F : Fc) ta all (deep : Nat) around, smsChk p f F (varsT vs) ta all deep around l = 0 → smsUses 5 l = false → smsUses 6 l = false → smsFOk (vs.map Vr.name) l = true := by
  induction m with
  | zero => intro l hl p f F ta all deep around _ _ _; have := sms_len l; obtain rfl : l = [] := List.eq_nil_of_length_eq_zero (by omega); rfl
  | succ m ih =>
    intro l
    induction l with
    | nil => intro _ p f F ta all deep around _ _ _; rfl
    | cons s l ihl =>
      intro h p f F ta all deep around hc u5 u6
      simp only [smsCount] at h
      have hcc := Sm.count_eq s
      rw [smsChk] at hc
      obtain ⟨c1, c2⟩ := thenE_0 hc
      rw [smsUses, Bool.or_eq_false_iff] at u5 u6
      have h2 := ihl (by omega) p f F ta all deep around c2 u5.2 u6.2
      obtain ⟨k5, b5, e5⟩ := uses_one u5.1
      obtain ⟨k6, b6, e6⟩ := uses_one u6.1
      rw [smsFOk, h2, Bool.and_true, fOk_iff]
      rw [Sm.chk_eq] at c1
      obtain ⟨_, c1⟩ := thenE_0 c1
      obtain ⟨k0, c1⟩ := thenE_0 c1
      unfold kindE at k0
      have k0 := mustE_0 (by decide) k0
      simp only [Bool.and_eq_true] at k0
      obtain ⟨⟨⟨⟨⟨⟨⟨kk1, _⟩, _⟩, _⟩, _⟩, _⟩, kk7⟩, kk8⟩ := k0
      unfold kd1 at kk1
      simp only [Bool.and_eq_true, decide_eq_true_eq] at kk1
      have e7 : (s.kind = 3 ∨ s.kind = 4 ∨ s.kind = 5) ∨ s.body = [] := by
        unfold kd7 hasK at kk7
        simp at kk7
        rcases kk7 with h | h | h | h
        · exact .inr h
        · exact .inl (.inl h)
        · exact .inl (.inr (.inl h))
        · exact .inl (.inr (.inr h))
      have e8 : s.kind = 3 ∨ s.els = [] := by
        unfold kd8 hasK at kk8
        simp at kk8
        rcases kk8 with h | h
        · exact .inr h
        · exact .inl h
      by_cases k34 : s.kind = 3 ∨ s.kind = 4
      · rw [if_neg (by omega), if_neg (by omega), if_pos k34] at c1
        obtain ⟨_, c1⟩ := thenE_0 c1
        obtain ⟨d1, d2⟩ := thenE_0 c1
        exact ⟨kk1.1, by omega, fun h => by omega, ih s.body (by omega) _ _ _ _ _ _ _ d1 b5 b6, ih s.els (by omega) _ _ _ _ _ _ _ d2 e5 e6⟩
      have hb : s.body = [] := by rcases e7 with h | h; omega; exact h
      have he : s.els = [] := by rcases e8 with h | h; omega; exact h
      refine ⟨kk1.1, by omega, fun h1 => ?_, by rw [hb]; rfl, by rw [he]; rfl⟩
      rw [if_pos h1] at c1
      exact word_in (thenE_0 c1).1
theorem nocalls_one {p : Pg} (hm : mayE p = 0) (hc : (formT p).calls = false) : ∃ F, p.funcs = [F] := by
  have hl : 1 ≤ p.funcs.length := by
    unfold mayE at hm
    have h := (thenE_0 hm).1
    unfold manyE at h
    have h := mustE_0 (by decide) (thenE_0 h).1
    simp only [Bool.and_eq_true, decide_eq_true_eq] at h
    omega
  have h1 : ¬ 1 < p.funcs.length := by
    unfold formT at hc
    simp only [Bool.or_eq_false_iff, decide_eq_false_iff_not] at hc
    exact hc.1
  match hp : p.funcs, hl, h1 with
  | [f], _, _ => exact ⟨f, rfl⟩
  | [], hl, _ => simp at hl
  | _ :: _ :: _, _, h1 => simp at h1
theorem may_fok {p : Pg} {F : Fc} (hm : mayE p = 0) (hp : p.funcs = [F]) (hc : (formT p).calls = false) (hf : (formT p).fors = false) : smsFOk ((F.params ++ F.vars).map Vr.name) F.body = true := by
  unfold formT at hc hf
  simp only [Bool.or_eq_false_iff, hp, fcsUse] at hc hf
  unfold mayE at hm
  have hm := (thenE_0 (thenE_0 (thenE_0 (thenE_0 hm).2).2).2).2
  rw [hp, asksE] at hm
  exact chk_fok _ _ F.body (Nat.le_refl _) _ _ _ _ _ _ _ (thenE_0 hm).1 (by simpa using hf) (by simpa using hc.2)
end Go.Proofs
namespace Go.Proofs
open Go.Mu
def zeroT (vs : List Vr) : KL := vs.foldl (fun t v => if v.kind = 1 then aset v.name 0 t else t) []
theorem zeroT_take {l : List Vr} {i : Nat} (h : i < l.length) : zeroT (l.take (i + 1)) = if l[i].kind = 1 then aset l[i].name 0 (zeroT (l.take i)) else zeroT (l.take i) := by rw [take_succ' h, zeroT, List.foldl_append]; rfl
def zeroK (vs : List Vr) : KEnv := fun n => if (vs.any fun v => decide (v.kind = 1) && decide (n = v.name)) = true then some 0 else none
theorem zeroT_gen (vs : List Vr) : ∀ (K : KEnv) (t : KL), KG K t → (∀ v ∈ vs, v.name.size ≤ maxLen) →
    KG (fun n => if (vs.any fun v => decide (v.kind = 1) && decide (n = v.name)) = true then some 0 else K n) (vs.foldl (fun t v => if v.kind = 1 then aset v.name 0 t else t) t) ∧ (vs.foldl (fun t v => if v.kind = 1 then aset v.name 0 t else t) t).length ≤ t.length + vs.length := by
  induction vs with
  | nil => intro K t h _; exact ⟨by simpa using h, by simp⟩
  | cons v vs ih =>
    intro K t h hs
    rw [List.foldl_cons]
    by_cases hv : v.kind = 1
    · rw [if_pos hv]
      obtain ⟨a, b⟩ := ih _ _ (h.put v.name 0 (hs v (List.mem_cons_self ..))) (fun x hx => hs x (List.mem_cons_of_mem _ hx))
      have h2 := asetI_len v.name 0 t
      refine ⟨?_, Nat.le_trans b (by rw [List.length_cons]; omega)⟩
      have e : (fun n => if (vs.any fun v => decide (v.kind = 1) && decide (n = v.name)) = true then some (0 : Int) else (fun m => if m = v.name then some 0 else K m) n) = (fun n => if ((v :: vs).any fun v => decide (v.kind = 1) && decide (n = v.name)) = true then some 0 else K n) := by
        funext n
        rw [List.any_cons]
        by_cases h1 : (vs.any fun v => decide (v.kind = 1) && decide (n = v.name)) = true
        · simp [h1]
        · by_cases h2 : n = v.name <;> simp [h1, h2, hv]
      rw [e] at a
      exact a
    · rw [if_neg hv]
      obtain ⟨a, b⟩ := ih _ _ h (fun x hx => hs x (List.mem_cons_of_mem _ hx))
      refine ⟨?_, Nat.le_trans b (by rw [List.length_cons]; omega)⟩
      have e : (fun n => if (vs.any fun v => decide (v.kind = 1) && decide (n = v.name)) = true then some (0 : Int) else K n) = (fun n => if ((v :: vs).any fun v => decide (v.kind = 1) && decide (n = v.name)) = true then some 0 else K n) := by
        funext n
        rw [List.any_cons]
        simp [hv]
      rw [e] at a
      exact a
theorem zero_kg (vs : List Vr) (hs : ∀ v ∈ vs, v.name.size ≤ maxLen) : KG (zeroK vs) (zeroT vs) ∧ (zeroT vs).length ≤ vs.length := by
  have := zeroT_gen vs (fun _ => none) [] ⟨by simp, fun _ => rfl, fun x hx => by cases hx⟩ hs
  exact ⟨this.1, by simpa [zeroT] using this.2⟩
structure Fc.OkF (F : Fc) : Prop where
  vars : F.vars.length ≤ 2^36
  body : smsCount F.body ≤ 2^36
  names : ∀ n ∈ smsSets F.body, n.size ≤ maxLen
  vnames : ∀ v ∈ F.vars, v.name.size ≤ maxLen
def Fc.fold1 (F : Fc) : Fc := { F with body := (smsFold F.body (zeroK F.vars)).1 }
def Fc.terms1 (F : Fc) : List Tm := (smsFold F.body (zeroK F.vars)).2.1
def onePg (rs : List Rg) (F : Fc) : Pg := ⟨rs, [F]⟩
theorem once_ok (rs : List Rg) (F : Fc) (hc : (onePg rs F).OkC) (hf : F.OkF) (H : List Blk) : ACalls Tryz.prog 39 [.agg (onePg rs F).cells] H (fun e H' => e = .ret (.tup [.agg (onePg rs F.fold1).cells, Tm.sl F.terms1]) ∧ H' = H) := by
  refine acalls_under fun hu _ => acalls_tidy (acalls_weakE (acalls_of_awp Tryz.func39 rfl (by kernel_rfl) ?_))
  obtain ⟨bz, hbz⟩ : ∃ bz, bz = Blk.box 25 [nilS, nilS] := ⟨_, rfl⟩
  obtain ⟨hZ, hZl⟩ := zero_kg F.vars hf.vnames
  have hvl := hf.vars
  have hbl := hf.body
  have cl := fun H => cloneP_ok (onePg rs F) hc H
  have hfs : ∀ k, fcS k [F] = .hs k 0 1 1 := fun k => by simp [fcS, ownS]
  have hfb : fcB [F] = .row 56 5 [F.cells] := by simp [fcB, ownB]
  simp only [onePg, Pg.cells, hfs, hfb] at cl
  refine awp_cut (fun _ => false) (fun _ => none) (fun f H' => H' = H ++ [.box 25 [Rg.sl rs, Fc.sl [F]], bz] ∧ f 1 = .bp H.length 0 ∧ f 2 = .bp (H.length + 1) 0) (by kernel_rfl) ?_ ?_
  · rw [hbz]
    simp -dsimp [onePg, Pg.cells]
  rintro g _ ⟨rfl, g1, g2⟩
  obtain ⟨V, hV⟩ : ∃ V, V = H ++ [.box 25 [Rg.sl rs, Fc.sl [F]], bz] := ⟨_, rfl⟩
  have hV0 : V[H.length]? = some (.box 25 [Rg.sl rs, Fc.sl [F]]) := by rw [hV]; simp
  have hnl : V.length = H.length + 2 := by rw [hV]; simp
  obtain ⟨k, hk⟩ : ∃ k, k = H.length + 2 := ⟨_, rfl⟩
  rw [← hV]
  -- the copy
  refine awp_cut (fun _ => false) (fun _ => none) (fun f H' => H' = H ++ [.box 25 [Rg.sl rs, .hs k 0 1 1], bz, .row 56 5 [F.cells]] ∧ f 1 = .bp H.length 0 ∧ f 2 = .bp (H.length + 1) 0) (by kernel_rfl) ?_ ?_
  · have hVt : ∀ X L, (V ++ L).set H.length X = H ++ X :: bz :: L := fun X L => by rw [hV]; simp
    have hV0' : ∀ L, (V ++ L)[H.length]? = some (.box 25 [Rg.sl rs, Fc.sl [F]]) := fun L => get_app_old hV0 L
    simp -dsimp [g1, g2, hV0]
    refine acallsW_of (cl _) ?_
    rintro e H' ⟨rfl, rfl⟩
    rw [hnl, ← hk]
    simp -dsimp [g1, g2, hV0', hVt]
  clear g g1 g2 hV0 hnl hV V
  rintro g _ ⟨rfl, g1, g2⟩
  obtain ⟨bP, hbP⟩ : ∃ bP, bP = Blk.box 25 [Rg.sl rs, .hs k 0 1 1] := ⟨_, rfl⟩
  obtain ⟨bF, hbF⟩ : ∃ bF, bF = Blk.row 56 5 [F.cells] := ⟨_, rfl⟩
  rw [← hbP, ← hbF]
  obtain ⟨V, hV⟩ : ∃ V, V = H ++ [bP, bz, bF] := ⟨_, rfl⟩
  have hVl : V.length = k + 1 := by rw [hV, hk]; simp
  rw [← hV]
  refine awp_cut (fun _ => false) (fun _ => none) (fun f H' => H' = V ++ [.map []] ∧ f 1 = .bp H.length 0 ∧ f 2 = .bp (H.length + 1) 0 ∧ f 4 = .hm V.length) (by kernel_rfl) ?_ ?_
  · simp -dsimp [g1, g2]
  clear g g1 g2
  rw [hVl, hV]
  rintro g _ ⟨rfl, g1, g2, g4⟩
  clear hVl hV V
  obtain ⟨M, hM⟩ : ∃ M : Blk → Blk → List Blk → List Blk, M = fun b m L => H ++ bP :: bz :: b :: m :: L := ⟨_, rfl⟩
  have hMe : ∀ b m L, M b m L = H ++ bP :: bz :: b :: m :: L := fun b m L => by rw [hM]
  have m0 : ∀ b m L, (M b m L)[H.length]? = some (.box 25 [Rg.sl rs, .hs k 0 1 1]) := fun b m L => by rw [hMe, ← hbP]; simp
  have m2 : ∀ b m L, (M b m L)[k]? = some b := fun b m L => by rw [hMe, hk]; simp
  have m3 : ∀ b m L, (M b m L)[k + 1]? = some m := fun b m L => by rw [hMe, hk, show H.length + 2 + 1 = H.length + 3 from rfl, get_app_next]; rfl
  have s2 : ∀ b b' m L, (M b m L).set k b' = M b' m L := fun b b' m L => by rw [hMe, hMe, hk]; simp
  have s3 : ∀ b m m' L, (M b m L).set (k + 1) m' = M b m' L := fun b m m' L => by rw [hMe, hMe, hk, show H.length + 2 + 1 = H.length + 3 from rfl, set_app_next]; rfl
  have ma : ∀ b m L X, M b m L ++ X = M b m (L ++ X) := fun b m L X => by rw [hMe, hMe]; simp
  have hM0 : H ++ [bP, bz, bF] ++ [Blk.map []] = M bF (.map []) [] := by rw [hMe]; simp
  rw [hM0]
  clear hM hM0
  have m2' : ∀ m L, (M bF m L)[k]? = some (.row 56 5 [[St F.name, Vr.sl F.params, Vr.sl F.vars, St.sl F.rets, Sm.sl F.body]]) := fun m L => by rw [m2, hbF]; rfl
  have hset := fun (n : ByteArray) t => mset_str kA n 0 t
  have kmM : ∀ b t L, mapEs (M b (.map (strM kA t)) L) (.hm (k + 1)) = some (strM kA t) := fun b t L => by simp only [mapEs]; rw [m3]
  -- words that are noughts
  refine awp_cutA (fun f H' => (∃ L, H' = M bF (.map (strM kA (zeroT F.vars))) L) ∧ f 1 = .bp H.length 0 ∧ f 2 = .bp (H.length + 1) 0 ∧ f 4 = .hm (k + 1)) ?_ ?_
  · refine awp_cut (fun _ => false) (fun _ => none) (fun f H' => H' = M bF (.map []) [] ∧ f 1 = .bp H.length 0 ∧ f 2 = .bp (H.length + 1) 0 ∧ f 4 = .hm (k + 1) ∧ f 16 = Vr.sl F.vars ∧ f 17 = I F.vars.length ∧ f 18 = I 0) (by kernel_rfl) ?_ ?_
    · simp -dsimp [g1, g2, g4, m0, m2']
    clear g g1 g2 g4
    rintro g _ ⟨rfl, g1, g2, g4, g16, g17, g18⟩
    refine awp_block ?_
    refine awp_loopI (fun (i : Nat) f H' => (∃ L, H' = M bF (.map (strM kA (zeroT (F.vars.take i)))) L) ∧ f 1 = .bp H.length 0 ∧ f 2 = .bp (H.length + 1) 0 ∧ f 4 = .hm (k + 1) ∧ f 16 = Vr.sl F.vars ∧ f 17 = I F.vars.length ∧ f 18 = I i ∧ i ≤ F.vars.length) (fun i => F.vars.length - i) 0
      ⟨⟨[], rfl⟩, g1, g2, g4, g16, g17, g18, by omega⟩ ?_
    clear g g1 g2 g4 g16 g17 g18
    rintro i g _ ⟨⟨L, rfl⟩, g1, g2, g4, g16, g17, g18, hi⟩
    refine awp_cut (fun _ => false) (fun _ => none) (fun f H' => H' = M bF (.map (strM kA (zeroT (F.vars.take i)))) L ∧ f 1 = .bp H.length 0 ∧ f 2 = .bp (H.length + 1) 0 ∧ f 4 = .hm (k + 1) ∧ f 16 = Vr.sl F.vars ∧ f 17 = I F.vars.length ∧ f 18 = I i ∧ f 19 = Bo (decide ((i : Int) < F.vars.length))) (by kernel_rfl) ?_ ?_
    · simp -dsimp [g1, g2, g4, g16, g17, g18]
    clear g g1 g2 g4 g16 g17 g18
    rintro g _ ⟨rfl, g1, g2, g4, g16, g17, g18, g19⟩
    refine awp_cut (fun _ => false) (fun _ => none) (fun f H' => H' = M bF (.map (strM kA (zeroT (F.vars.take i)))) L ∧ f 1 = .bp H.length 0 ∧ f 2 = .bp (H.length + 1) 0 ∧ f 4 = .hm (k + 1) ∧ f 16 = Vr.sl F.vars ∧ f 17 = I F.vars.length ∧ f 18 = I i ∧ i < F.vars.length) (by kernel_rfl) ?_ ?_
    · simp -dsimp [g19]
      refine condVW_introD (fun hlt => ?_) (fun hlt => ?_)
      · simp -dsimp [g1, g2, g4, g16, g17, g18]
        omega
      · have hall : F.vars.take i = F.vars := List.take_of_length_le (by omega)
        rw [hall]
        simp -dsimp [g1, g2, g4]
        exact ⟨L, rfl⟩
    clear g g1 g2 g4 g16 g17 g18 g19
    rintro g _ ⟨rfl, g1, g2, g4, g16, g17, g18, hlt⟩
    have hlx := List.getElem?_eq_getElem hlt
    have hT := zeroT_take hlt
    obtain ⟨x, hx⟩ : ∃ x, x = F.vars[i] := ⟨_, rfl⟩
    rw [← hx] at hlx hT
    obtain ⟨t, ht⟩ : ∃ t, t = zeroT (F.vars.take i) := ⟨_, rfl⟩
    rw [← ht] at hT ⊢
    clear hx
    refine awp_cutA (fun f H' => (∃ L, H' = M bF (.map (strM kA (zeroT (F.vars.take (i + 1))))) L) ∧ f 1 = .bp H.length 0 ∧ f 2 = .bp (H.length + 1) 0 ∧ f 4 = .hm (k + 1) ∧ f 16 = Vr.sl F.vars ∧ f 17 = I F.vars.length ∧ f 18 = I i) ?_ ?_
    rotate_left
    · clear g g1 g2 g4 g16 g17 g18
      rintro g _ ⟨⟨L, rfl⟩, g1, g2, g4, g16, g17, g18⟩
      refine awp_all (fun _ => false) (fun _ => none) (by kernel_rfl) ?_
      simp -dsimp [g1, g2, g4, g16, g17, g18]
      exact ⟨i + 1, by omega, ⟨L, rfl⟩, wrapS (by omega), by omega⟩
    refine awp_block ?_
    obtain ⟨V, hV⟩ : ∃ V, V = M bF (.map (strM kA t)) L := ⟨_, rfl⟩
    rw [← hV]
    refine awp_cut (fun _ => false) (fun _ => none) (fun f H' => H' = V ++ [.box 120 [St x.name, I x.kind, I x.size, Bo x.secret]] ∧ f 1 = .bp H.length 0 ∧ f 2 = .bp (H.length + 1) 0 ∧ f 4 = .hm (k + 1) ∧ f 16 = Vr.sl F.vars ∧ f 17 = I F.vars.length ∧ f 18 = I i ∧ f 6 = .bp V.length 0) (by kernel_rfl) ?_ ?_
    · simp -dsimp [g1, g2, g4, g16, g17, g18, hlx]
    clear g g1 g2 g4 g16 g17 g18
    rintro g _ ⟨rfl, g1, g2, g4, g16, g17, g18, g6⟩
    have hVb : ∀ m, (M bF m (L ++ [.box 120 [St x.name, I x.kind, I x.size, Bo x.secret]]))[V.length]? = some (.box 120 [St x.name, I x.kind, I x.size, Bo x.secret]) := fun m => by
      rw [hV, hMe, hMe]; simp
    rw [hV, ma]
    rw [hV] at g6 hVb
    obtain ⟨kv, hkv⟩ : ∃ kv, kv = (M bF (.map (strM kA t)) L).length := ⟨_, rfl⟩
    rw [← hkv] at g6 hVb
    clear hV V hkv
    refine awp_cut (fun _ => false) (fun _ => none) (fun f H' => H' = M bF (.map (strM kA t)) (L ++ [.box 120 [St x.name, I x.kind, I x.size, Bo x.secret]]) ∧ f 1 = .bp H.length 0 ∧ f 2 = .bp (H.length + 1) 0 ∧ f 4 = .hm (k + 1) ∧ f 16 = Vr.sl F.vars ∧ f 17 = I F.vars.length ∧ f 18 = I i ∧ f 6 = .bp kv 0 ∧ f 24 = Bo (x.kind == 1)) (by kernel_rfl) ?_ ?_
    · simp -dsimp [g1, g2, g4, g16, g17, g18, g6, hVb]
    clear g g1 g2 g4 g16 g17 g18 g6
    rintro g _ ⟨rfl, g1, g2, g4, g16, g17, g18, g6, g24⟩
    rw [hT]
    by_cases hv : x.kind = 1
    · rw [if_pos hv]
      refine awp_condT (by kernel_rfl) (by show g 24 = _; rw [g24]; simp [hv]) ?_
      refine awp_all (fun _ => false) (fun _ => none) (by kernel_rfl) ?_
      simp -dsimp [g1, g2, g4, g16, g17, g18, g6, hVb, kmM, m3, s3, hset]
      exact ⟨_, rfl⟩
    · rw [if_neg hv]
      refine awp_condF (by kernel_rfl) (by show g 24 = _; rw [g24]; simp [hv]) ?_
      refine awp_all (fun _ => false) (fun _ => none) (by kernel_rfl) ?_
      simp -dsimp [g1, g2, g4, g16, g17, g18]
      exact ⟨_, rfl⟩
  clear g g1 g2 g4
  rintro g _ ⟨⟨L, rfl⟩, g1, g2, g4⟩
  -- statements
  have cs : ACalls Tryz.prog 71 [Sm.sl F.body, .hm (k + 1)] (M bF (.map (strM kA (zeroT F.vars))) L) (fun e H' => e = .ret (.tup [Sm.sl F.fold1.body, Tm.sl F.terms1]) ∧ ∃ m, H' = M bF m L) := by
    have h := fstmts_ok _ F.body (zeroK F.vars) (zeroT F.vars) (Nat.lt_succ_self _) hbl hf.names hZ (by omega) (M bF (kmB (zeroT F.vars)) L) (k + 1) (m3 _ _ _)
    have h2 := acalls_gap (P := Tryz.prog) (g := 71) (pre := [Sm.sl F.body]) (post := []) (k := k + 1) (es := strM kA (zeroT F.vars)) (H := M bF (.map (strM kA (zeroT F.vars))) L) (m3 _ _ _) (by rw [s3]; exact h)
    refine h2.mono ?_
    rintro e H' ⟨rfl, t', _, _, rfl⟩
    rw [s3]
    exact ⟨rfl, _, rfl⟩
  refine awp_cut (fun _ => false) (fun _ => none) (fun f H' => (∃ m, H' = M bF m L) ∧ f 1 = .bp H.length 0 ∧ f 2 = .bp (H.length + 1) 0 ∧ f 7 = Sm.sl F.fold1.body ∧ f 8 = Tm.sl F.terms1) (by kernel_rfl) ?_ ?_
  · simp -dsimp [g1, g2, g4, m0, m2']
    refine acallsW_of cs ?_
    rintro e H' ⟨rfl, m, rfl⟩
    simp -dsimp [g1, g2]
    exact ⟨_, rfl⟩
  clear g g1 g2 g4 cs
  rintro g _ ⟨⟨m, rfl⟩, g1, g2, g7, g8⟩
  obtain ⟨F', hF'⟩ : ∃ F', F' = F.fold1 := ⟨_, rfl⟩
  have hF'c : F'.cells = [St F.name, Vr.sl F.params, Vr.sl F.vars, St.sl F.rets, Sm.sl F.fold1.body] := by rw [hF']; rfl
  rw [← hF'] at g7 hF'c ⊢
  obtain ⟨tm, htm⟩ : ∃ tm, tm = F.terms1 := ⟨_, rfl⟩
  rw [← htm] at g8 ⊢
  refine awp_cut (fun _ => false) (fun _ => none) (fun f H' => H' = M (.row 56 5 [F'.cells]) m L ∧ f 1 = .bp H.length 0 ∧ f 2 = .bp (H.length + 1) 0 ∧ f 8 = Tm.sl tm) (by kernel_rfl) ?_ ?_
  · have hst : astore (M bF m L) (.rp k 1 0 4) [Sm.sl F'.body] = some (M (.row 56 5 [F'.cells]) m L) := by
      have e : astore (M bF m L) (.rp k 1 0 4) [Sm.sl F'.body] = some ((M bF m L).set k (.row 56 5 [[St F.name, Vr.sl F.params, Vr.sl F.vars, St.sl F.rets, Sm.sl F'.body]])) := by
        unfold astore
        show (match (M bF m L)[k]? with | some (.row t sz es) => _ | _ => _) = _
        rw [m2']
        rfl
      rw [e, s2, hF'c]
    simp -dsimp [g1, g2, g7, g8, m0, m2', hst]
  clear g g1 g2 g7 g8 m2'
  rintro g _ ⟨rfl, g1, g2, g8⟩
  obtain ⟨Q, hQ⟩ : ∃ Q, Q = onePg rs F' := ⟨_, rfl⟩
  have hQc : Q.cells = [Rg.sl rs, Fc.sl [F']] := by rw [hQ]; rfl
  rw [← hQ]
  rw [hMe]
  refine awp_giveBox hu 2 5 56 [Fc.cells F'] (by simp [ownB]) (fcs_frzB [F']) 0 25 _ Q.cells (by rw [hbP]; rfl) (by omega) (by
    rw [hQc, ← hk]
    have e : (AV.hs k 0 1 1).frzS k 5 [Fc.cells F'] = Fc.sl [F'] := by simp [AV.frzS, AV.frz]
    simp only [List.map_cons, List.map_nil, frzS_vs, e]
    exact .refl _) ?_
  intro L' f' hf' hLl hL0 hLo
  obtain ⟨L1, rfl⟩ : ∃ L1, L' = .box 25 Q.cells :: bz :: L1 := by
    have e1 := hLo 1 bz (by omega) (by omega) rfl (by rw [hbz]; rfl)
    match L', hL0, e1 with
    | a :: b :: L1, e0, e1 =>
      simp only [List.getElem?_cons_zero, List.getElem?_cons_succ, Option.some.injEq] at e0 e1
      subst e0 e1
      exact ⟨L1, rfl⟩
  have f1 : f' 1 = .bp H.length 0 := by rw [hf', g1]; simp
  have f2 : f' 2 = .bp (H.length + 1) 0 := by rw [hf', g2]; simp
  have f8 : f' 8 = Tm.sl tm := by rw [hf', g8]; simp
  clear hf' g1 g2 g8 hLl hL0 hLo
  obtain ⟨V, hV⟩ : ∃ V, V = H ++ .box 25 Q.cells :: bz :: L1 := ⟨_, rfl⟩
  have v0 : V[H.length]? = some (.box 25 Q.cells) := by rw [hV]; simp
  have vq : V.set (H.length + 1) (.box 25 Q.cells) = H ++ .box 25 Q.cells :: .box 25 Q.cells :: L1 := by rw [hV]; simp
  have v1 : V[H.length + 1]? = some (.box 25 [nilS, nilS]) := by rw [hV, hbz]; simp
  have vl : H.length + 1 < V.length := lt_of_get v1
  have vg : ∀ X, (V.set (H.length + 1) X)[H.length + 1]? = some X := fun X => List.getElem?_set_self vl
  rw [← hV]
  simp only [Pg.cells] at v0 vq
  refine awp_all (fun _ => false) (fun _ => none) (by kernel_rfl) ?_
  simp -dsimp [f1, f2, f8, v0, v1, vg]
  rw [vq]
  exact tidy_weak (.refl _) (tidy_same rfl ⟨rfl, rfl⟩)
end Go.Proofs
