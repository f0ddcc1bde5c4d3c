/- A call that is handed in what it may only read: own memory stays as it is, whatever own rows the arguments show. -/
import Derived.Test.YtfoghfmmcogheaaGreatFwUtoG24
set_option linter.unusedVariables false
set_option linter.unusedSimpArgs false
set_option maxHeartbeats 4000000
set_option maxRecDepth 100000
namespace Go.Mu
open Go.RowKit (Below)
section
variable {P : Program}
def Shows (H : List Blk) (args args' : List AV) : Prop := ∀ B w0 cx vals, HRel B w0 cx → cx.H = H → RepL cx false args vals → ∃ cx1, HRel B w0 cx1 ∧ cx1.w = cx.w ∧ RepL cx1 false args' vals
theorem Shows.refl (H : List Blk) (args : List AV) : Shows H args args := fun B w0 cx vals h1 h2 h3 => ⟨cx, h1, rfl, h3⟩
theorem Shows.row {H : List Blk} {args args' : List AV} (k sz : Nat) (t : TypeId) (es : List (List AV)) (hk : H[k]? = some (.row t sz es)) (hz : es.flatten.all AV.frzB = true) (h : Shows (frzH k sz es H) (frzL k sz es args) args') : Shows H args args' := by
  intro B w0 cx vals h1 h2 h3
  subst h2
  obtain ⟨cx1, a, b, c⟩ := h B w0 (cx.frz k sz es) vals (hrel_frz h1 hk hz) rfl (repL_frz h1 hk hz h3)
  exact ⟨cx1, a, b, c⟩
theorem acalls_apart {fid : FuncId} {args args' : List AV} {H : List Blk} {x : Value} (hs : Shows H args args') (hu : underL 0 args' = true) (h : ACalls P fid args' [] (fun e H' => e = .ret (.v x) ∧ H' = [])) :
    ACalls P fid args H (fun e H' => e = .ret (.v x) ∧ H' = H) := by
  intro B w0 cx vals h1 h2 h3
  subst h2
  obtain ⟨cx1, a1, a2, a3⟩ := hs B w0 cx vals h1 rfl h3
  have e1 : cx1.H = [] ++ cx1.H := rfl
  have r1 := repL_cut e1 a3 hu
  have hr : HRel cx.w.heap.size cx.w (cx1.cut []) := by
    refine ⟨?_, ?_, fun b hb => ?_, fun k bl hk => ?_, fun k k' bl bl' hk => ?_⟩
    · show Below _ cx.w cx1.w
      rw [a2]; exact Below.refl _ _
    · show _ ≤ cx1.w.heap.size
      rw [a2]; exact Nat.le_refl _
    · exact a1.frz b hb
    · simp [Cx.cut] at hk
    · simp [Cx.cut] at hk
  have := h cx.w.heap.size cx.w (cx1.cut []) vals hr rfl r1
  rw [show (cx1.cut []).w = cx.w from a2] at this
  refine this.mono fun e w' he => ?_
  cases e with
  | returned y =>
    obtain ⟨cx', r, rfl, b1, b2, b3, b4, b5⟩ := he
    cases b4
    have hb : Below cx.w.heap.size cx.w cx'.w := b1.below
    refine ⟨{ cx with w := cx'.w }, .v x, rfl, hrel_ext h1 hb, ⟨fun b o x hf hc => ?_, fun b h => h, fun k bl hk hf => ⟨bl, hk, hf, rfl⟩, fun k t sz es hk => .inr ⟨es, hk, Nat.le_refl _, fun _ => ⟨rfl, rfl⟩⟩⟩, ?_, rfl, rfl⟩
    · show cx'.w.cell? _ = _
      rw [hb.cell (h1.frz b hf)]; exact hc
    · obtain rfl := b3.v_inv
      exact .v _
  | panicked ch => obtain ⟨cx', x', y, rfl, b1, b2, b3, b4, b5, b6⟩ := he; cases b5
  | outgrown => exact he
end
end Go.Mu
namespace Go.Mu
open Go.RowKit (Below)
section
variable {P : Program} {n : Nat} {c : Code} {Q : AQ}
end
end Go.Mu
namespace Go.Mu
open Go.RowKit (Below)
section
variable {P : Program} {n : Nat} {c : Code} {Q : AQ}
end
end Go.Mu
namespace Go.Mu
inductive FT where
  | lin (p : OPlan)
  | fork (pre : List Nat) (ats : FT)
  | alt (i : Nat) (late : List Nat) (t more : FT)
  | none
section
variable {P : Program} {n : Nat} {pu : Nat → Bool} {ops : Array Oper} {Q : AQ}
variable {hn : Nat → Bool}
end
end Go.Mu
namespace Go.Mu
open Go.RowKit (Below)
section
variable {P : Program} {n : Nat} {Q : AQ}
def M2 (H : List Blk) (c : Nat) (X o t : Blk) (L : List Blk) : List Blk := H.set c X ++ o :: t :: L
variable {H : List Blk} {c : Nat}
end
end Go.Mu
namespace Go.Proofs
open Go.Mu
mutual
def Sm.uses (k : Int) : Sm → Bool
  | .mk kd _ _ _ _ _ _ _ b el => kd == k || (smsUses k b || smsUses k el)
def smsUses (k : Int) : List Sm → Bool
  | [] => false
  | s :: l => s.uses k || smsUses k l
end
theorem Sm.uses_eq (k : Int) (s : Sm) : s.uses k = (s.kind == k || (smsUses k s.body || smsUses k s.els)) := by cases s; rw [Sm.uses]; rfl
abbrev formB (a b c d : Bool) : Blk := .box 58 [Bo a, Bo b, Bo c, Bo d]
def FormI (G : Bool → Bool → List Blk) (A B : Bool) (l : List Sm) (H' : List Blk) : Prop := ∃ a' b' L, H' = G a' b' ++ L ∧ (a' || smsUses 6 l) = A ∧ (b' || smsUses 5 l) = B
theorem form1_ok (m : Nat) : ∀ (l : List Sm) (a b cc dd : Bool), smsCount l < m → smsCount l ≤ 2^36 → ∀ (H : List Blk) (c w : Nat), c ≠ w → H[c]? = some (formB a b cc dd) → H[w]? = some (.box 99 [.fn (.func 49) [] [.bp c 0, .bp w 0]]) →
    ACalls Tryz.prog 49 [Sm.sl l, .bp c 0, .bp w 0] H (fun e H' => e = .ret (.tup []) ∧ H' = H.set c (formB (a || smsUses 6 l) (b || smsUses 5 l) cc dd)) := by
  induction m with
  | zero => intro l a b cc dd h; omega
  | succ m ih =>
    intro l a b cc dd hm hcl H c w hcw hc hw
    refine acalls_tidy (acalls_of_awp Tryz.func49 rfl (by kernel_rfl) ?_)
    have hlen := sms_len l
    have hcH := lt_of_get hc
    have hwH := lt_of_get hw
    obtain ⟨G, hG⟩ : ∃ G : Bool → Bool → List Blk, ∀ a b, G a b = H.set c (formB a b cc dd) := ⟨_, fun _ _ => rfl⟩
    have gl : ∀ a b, (G a b).length = H.length := fun a b => by rw [hG]; simp
    have gg : ∀ a b L, (G a b ++ L)[c]? = some (formB a b cc dd) := fun n k L => by rw [hG]; exact s1_get hcH _ _
    have gw : ∀ a b L, (G a b ++ L)[w]? = some (.box 99 [.fn (.func 49) [] [.bp c 0, .bp w 0]]) := fun n k L => by rw [hG, List.getElem?_append_left (by simpa using hwH), List.getElem?_set_ne hcw]; exact hw
    have gs : ∀ a b a' b' L, (G a b ++ L).set c (formB a' b' cc dd) = G a' b' ++ L := fun n k n' k' L => by rw [hG, hG]; exact s1_set hcH _ _ _
    have done : ∀ a' b' L, a' = (a || smsUses 6 l) → b' = (b || smsUses 5 l) → Tidy H (fun x H' => x = AE.ret (.tup []) ∧ H' = H.set c (formB (a || smsUses 6 l) (b || smsUses 5 l) cc dd)) (.ret (.tup [])) (G a' b' ++ L) := fun a' b' L h1 h2 => by
      rw [hG, h1, h2]; exact tidy_s1 (fun _ => rfl) rfl ⟨rfl, rfl⟩
    have hH : H = G a b := by rw [hG, s1_same hc]
    clear hG
    refine awp_cut (fun _ => false) (fun _ => none) (fun f H' => H' = G a b ++ [] ∧ f 1 = .bp c 0 ∧ f 2 = .bp w 0 ∧ f 6 = Sm.sl l ∧ f 7 = I l.length ∧ f 8 = I 0) (by kernel_rfl) ?_ ?_
    · simp -dsimp
      exact hH
    rintro g _ ⟨rfl, g1, g2, g6, g7, g8⟩
    refine awp_block ?_
    refine awp_loopI (fun (i : Nat) f H' => FormI G (a || smsUses 6 l) (b || smsUses 5 l) (l.drop i) H' ∧ f 1 = .bp c 0 ∧ f 2 = .bp w 0 ∧ f 6 = Sm.sl l ∧ f 7 = I l.length ∧ f 8 = I i ∧ i ≤ l.length) (fun i => l.length - i) 0
      ⟨⟨a, b, [], rfl, rfl, rfl⟩, g1, g2, g6, g7, g8, by omega⟩ ?_
    clear g g1 g2 g6 g7 g8
    rintro i g _ ⟨⟨a', b', L, rfl, ha, hb⟩, g1, g2, g6, g7, g8, hi⟩
    refine awp_cut (fun _ => false) (fun _ => none) (fun f H' => H' = G a' b' ++ L ∧ f 1 = .bp c 0 ∧ f 2 = .bp w 0 ∧ f 6 = Sm.sl l ∧ f 7 = I l.length ∧ f 8 = I i ∧ f 9 = Bo (decide ((i : Int) < l.length))) (by kernel_rfl) ?_ ?_
    · simp -dsimp [g1, g2, g6, g7, g8]
    clear g g1 g2 g6 g7 g8
    rintro g _ ⟨rfl, g1, g2, g6, g7, g8, g9⟩
    refine awp_cut (fun _ => false) (fun _ => none) (fun f H' => H' = G a' b' ++ L ∧ f 1 = .bp c 0 ∧ f 2 = .bp w 0 ∧ f 6 = Sm.sl l ∧ f 7 = I l.length ∧ f 8 = I i ∧ i < l.length) (by kernel_rfl) ?_ ?_
    · simp -dsimp [g9]
      refine condVW_introD (fun hlt => ?_) (fun hlt => ?_)
      · simp -dsimp [g1, g2, g6, g7, g8]
        omega
      · rw [drop_end hlt, smsUses, Bool.or_false] at ha hb
        simp -dsimp
        exact done _ _ _ ha hb
    clear g g1 g2 g6 g7 g8 g9
    rintro g _ ⟨rfl, g1, g2, g6, g7, g8, hlt⟩
    have hlx := List.getElem?_eq_getElem hlt
    have hgx := sms_get hlt
    rw [drop_cons hlt, smsUses, Sm.uses_eq] at ha hb
    obtain ⟨x, hx⟩ : ∃ x, x = l[i] := ⟨_, rfl⟩
    rw [← hx] at hlx hgx ha hb
    clear hx
    have hcx := Sm.count_eq x
    refine awp_cutA (fun f H' => FormI G (a || smsUses 6 l) (b || smsUses 5 l) (l.drop (i + 1)) H' ∧ f 1 = .bp c 0 ∧ f 2 = .bp w 0 ∧ f 6 = Sm.sl l ∧ f 7 = I l.length ∧ f 8 = I i) ?_ ?_
    rotate_left
    · clear g g1 g2 g6 g7 g8
      rintro g H' ⟨ho, g1, g2, g6, g7, g8⟩
      replace ho := Hid.mk ho
      refine awp_all (fun _ => false) (fun _ => none) (by kernel_rfl) ?_
      simp -dsimp [g1, g2, g6, g7, g8]
      exact ⟨i + 1, by omega, ho.out, wrapS (by omega), by omega⟩
    refine awp_block ?_
    obtain ⟨bX, hbX⟩ : ∃ bX, bX = Blk.box 74 x.cells := ⟨_, rfl⟩
    simp only [Sm.cells_eq] at hbX
    obtain ⟨k, hk⟩ : ∃ k, k = (G a' b' ++ L).length := ⟨_, rfl⟩
    have hk2 : k = H.length + L.length := by rw [hk, List.length_append, gl]
    refine awp_cut (fun _ => false) (fun _ => none) (fun f H' => H' = G a' b' ++ L ++ [bX] ∧ f 1 = .bp c 0 ∧ f 2 = .bp w 0 ∧ f 6 = Sm.sl l ∧ f 7 = I l.length ∧ f 8 = I i ∧ f 5 = .bp k 0) (by kernel_rfl) ?_ ?_
    · obtain ⟨V, hV⟩ : ∃ V, V = G a' b' ++ L := ⟨_, rfl⟩
      rw [← hV] at hk ⊢
      simp -dsimp [g1, g2, g6, g7, g8, hlx, hbX, hk]
    clear g g1 g2 g6 g7 g8
    rintro g _ ⟨rfl, g1, g2, g6, g7, g8, g5⟩
    rw [List.append_assoc]
    obtain ⟨L1, hL1⟩ : ∃ L1, L1 = L ++ [bX] := ⟨_, rfl⟩
    have gX : ∀ a b, (G a b ++ L1)[k]? = some (.box 74 [I x.kind, St x.name, St.sl x.names, I x.e.op, U x.e.word, St x.e.name, Ex.sl x.e.args, I x.a.op, U x.a.word, St x.a.name, Ex.sl x.a.args, Ex.sl x.args, U x.low, U x.high, Sm.sl x.body, Sm.sl x.els]) := fun a b => by
      rw [hL1, hk2, List.getElem?_append_right (by rw [gl]; omega), gl, Nat.add_sub_cancel_left, List.getElem?_append_right (by omega), Nat.sub_self, ← hbX]; rfl
    rw [← hL1]
    clear hL1 hk hk2 hbX
    refine awp_cut (fun _ => false) (fun _ => none) (fun f H' => H' = G a' (b' || x.kind == 5) ++ L1 ∧ f 1 = .bp c 0 ∧ f 2 = .bp w 0 ∧ f 6 = Sm.sl l ∧ f 7 = I l.length ∧ f 8 = I i ∧ f 5 = .bp k 0) (by kernel_rfl) ?_ ?_
    · clear ha hb
      cases b' <;> simp -dsimp [g1, g2, g6, g7, g8, g5, gg, gX, gs]
    clear g g1 g2 g6 g7 g8 g5
    rintro g _ ⟨rfl, g1, g2, g6, g7, g8, g5⟩
    obtain ⟨b2, hb2⟩ : ∃ b2, b2 = (b' || x.kind == 5) := ⟨_, rfl⟩
    rw [← hb2]
    refine awp_cut (fun _ => false) (fun _ => none) (fun f H' => H' = G (a' || x.kind == 6) b2 ++ L1 ∧ f 1 = .bp c 0 ∧ f 2 = .bp w 0 ∧ f 6 = Sm.sl l ∧ f 7 = I l.length ∧ f 8 = I i ∧ f 5 = .bp k 0) (by kernel_rfl) ?_ ?_
    · clear ha hb
      cases a' <;> simp -dsimp [g1, g2, g6, g7, g8, g5, gg, gX, gs]
    clear g g1 g2 g6 g7 g8 g5
    rintro g _ ⟨rfl, g1, g2, g6, g7, g8, g5⟩
    obtain ⟨a2, ha2⟩ : ∃ a2, a2 = (a' || x.kind == 6) := ⟨_, rfl⟩
    rw [← ha2]
    have c1 := fun a b L => ih x.body a b cc dd (by omega) (by omega) (G a b ++ L) c w hcw (gg _ _ _) (gw _ _ _)
    have c2 := fun a b L => ih x.els a b cc dd (by omega) (by omega) (G a b ++ L) c w hcw (gg _ _ _) (gw _ _ _)
    simp only [gs] at c1 c2
    refine awp_all (fun _ => false) (fun _ => none) (by kernel_rfl) ?_
    simp -dsimp [g1, g2, g6, g7, g8, g5, gw, gX]
    refine acallsW_of (c1 _ _ _) ?_
    rintro e _ ⟨rfl, rfl⟩
    simp -dsimp [g1, g2, g6, g7, g8, g5, gw, gX]
    refine acallsW_of (c2 _ _ _) ?_
    rintro e _ ⟨rfl, rfl⟩
    simp -dsimp [g1, g2, g6, g7, g8, g5]
    refine ⟨_, _, L1, rfl, ?_, ?_⟩
    · rw [← ha, ha2]; simp only [Bool.or_assoc]
    · rw [← hb, hb2]; simp only [Bool.or_assoc]
end Go.Proofs
namespace Go.Proofs
open Go.Mu
def fcsUse (k : Int) : List Fc → Bool
  | [] => false
  | f :: l => smsUses k f.body || fcsUse k l
def vrsUse (k : Int) : List Vr → Bool
  | [] => false
  | v :: l => v.kind == k || vrsUse k l
def fcsVar (k : Int) : List Fc → Bool
  | [] => false
  | f :: l => vrsUse k f.vars || fcsVar k l
structure Fo where
  (calls fors arrays stack : Bool)
@[simp] def Fo.cells (f : Fo) : List AV := [Bo f.calls, Bo f.fors, Bo f.arrays, Bo f.stack]
def formT (p : Pg) : Fo := ⟨decide (1 < p.funcs.length) || fcsUse 6 p.funcs, fcsUse 5 p.funcs, fcsVar 2 p.funcs, decide (0 < p.regions.length) || fcsVar 3 p.funcs⟩
def formE (p : Pg) : Fo := if mayE p = 0 then formT p else ⟨false, false, false, false⟩
def FormJ (M : Bool → Bool → Bool → Bool → List Blk → List Blk) (T : Fo) (l : List Fc) (H' : List Blk) : Prop := ∃ a b c d L, H' = M a b c d L ∧ (a || fcsUse 6 l) = T.calls ∧ (b || fcsUse 5 l) = T.fors ∧ (c || fcsVar 2 l) = T.arrays ∧ (d || fcsVar 3 l) = T.stack
def FormK (M : Bool → Bool → Bool → Bool → List Blk → List Blk) (a b C D ra rs : Bool) (B : Blk) (L : List Blk) (l : List Vr) (H' : List Blk) : Prop := ∃ c d L2, H' = M a b c d (L ++ B :: L2) ∧ (c || (vrsUse 2 l || ra)) = C ∧ (d || (vrsUse 3 l || rs)) = D
theorem form_ok (p : Pg) (hp : p.Ok2) (hc : ∀ f ∈ p.funcs, smsCount f.body ≤ 2^36) (hv : ∀ f ∈ p.funcs, f.vars.length ≤ 2^36) (hfl : p.funcs.length ≤ 2^36) (hrl : p.regions.length ≤ 2^36) (H : List Blk) : ACalls Tryz.prog 28 [.agg p.cells] H (fun e H' => e = .ret (.agg (formE p).cells) ∧ H' = H) := by
  refine acalls_tidy (acalls_of_awp Tryz.func28 rfl (by kernel_rfl) ?_)
  obtain ⟨bP, hbP⟩ : ∃ bP, bP = Blk.box 25 [Rg.sl p.regions, Fc.sl p.funcs] := ⟨_, rfl⟩
  refine awp_cut (fun _ => false) (fun _ => none) (fun f H' => H' = H ++ [bP, formB false false false false] ∧ f 1 = .bp H.length 0 ∧ f 2 = .bp (H.length + 1) 0) (by kernel_rfl) ?_ ?_
  · rw [hbP]
    simp -dsimp
  rintro g _ ⟨rfl, g1, g2⟩
  refine awp_cut (fun _ => false) (fun _ => none) (fun f H' => H' = H ++ [bP, formB false false false false, formB false false false false] ∧ f 1 = .bp H.length 0 ∧ f 2 = .bp (H.length + 1) 0 ∧ f 3 = .bp (H.length + 2) 0) (by kernel_rfl) ?_ ?_
  · simp -dsimp [g1, g2]
  clear g g1 g2
  rintro g _ ⟨rfl, g1, g2, g3⟩
  obtain ⟨V, hV⟩ : ∃ V, V = H ++ [bP, formB false false false false, formB false false false false] := ⟨_, rfl⟩
  have hV0 : V[H.length]? = some (.box 25 [Rg.sl p.regions, Fc.sl p.funcs]) := by rw [hV, ← hbP]; simp
  have hV1 : V[H.length + 1]? = some (formB false false false false) := by rw [hV]; simp
  have hV2 : V[H.length + 2]? = some (formB false false false false) := by rw [hV]; simp
  have hVs : V.set (H.length + 1) (formB false false false false) = V := by rw [hV]; simp
  have fin : ∀ L e H', e = AE.ret (.agg (formE p).cells) → H' = H ++ L → Tidy H (fun e H' => e = .ret (.agg (formE p).cells) ∧ H' = H) e H' := fun L e H' h1 h2 => by
    rw [h1, h2]; exact tidy_same rfl ⟨rfl, rfl⟩
  rw [← hV]
  have cm := fun H => may_ok p hp H
  simp only [Pg.cells] at cm
  refine awp_cut (fun _ => false) (fun _ => none) (fun f H' => V = H' ∧ f 1 = .bp H.length 0 ∧ f 2 = .bp (H.length + 1) 0 ∧ f 3 = .bp (H.length + 2) 0 ∧ mayE p = 0) (by kernel_rfl) ?_ ?_
  · simp -dsimp [g1, g2, g3, hV0]
    refine acallsW_det (cm _) ?_
    simp -dsimp
    refine condVW_introNE (fun h1 h1a h1b => ?_) (fun h1 => ?_)
    · simp -dsimp [g1, g2, g3, hV0, hV1, hV2, hVs]
      exact fin _ _ _ (by rw [formE, if_neg h1]; rfl) hV
    · simp -dsimp [g1, g2, g3]
      exact h1
  clear g g1 g2 g3
  rintro g _ ⟨rfl, g1, g2, g3, hmay⟩
  obtain ⟨bW, hbW⟩ : ∃ bW, bW = Blk.box 99 [.fn (.func 49) [] [.bp (H.length + 2) 0, .bp (H.length + 3) 0]] := ⟨_, rfl⟩
  obtain ⟨M, hM⟩ : ∃ M : Bool → Bool → Bool → Bool → List Blk → List Blk, M = fun a b c d L => H ++ bP :: formB false false false false :: formB a b c d :: bW :: L := ⟨_, rfl⟩
  have hMe : ∀ a b c d L, M a b c d L = H ++ bP :: formB false false false false :: formB a b c d :: bW :: L := fun a b c d L => by rw [hM]
  have hMa : ∀ a b c d L R, M a b c d L ++ R = M a b c d (L ++ R) := fun a b c d L R => by rw [hMe, hMe]; simp
  have hMl : ∀ a b c d L, (M a b c d L).length = H.length + 4 + L.length := fun a b c d L => by rw [hMe]; simp; omega
  have m0 : ∀ a b c d L, (M a b c d L)[H.length]? = some (.box 25 [Rg.sl p.regions, Fc.sl p.funcs]) := fun a b c d L => by rw [hMe, ← hbP]; simp
  have m1 : ∀ a b c d L, (M a b c d L)[H.length + 1]? = some (formB false false false false) := fun a b c d L => by rw [hMe]; simp
  have m2 : ∀ a b c d L, (M a b c d L)[H.length + 2]? = some (formB a b c d) := fun a b c d L => by rw [hMe]; simp
  have m3 : ∀ a b c d L, (M a b c d L)[H.length + 3]? = some (.box 99 [.fn (.func 49) [] [.bp (H.length + 2) 0, .bp (H.length + 3) 0]]) := fun a b c d L => by rw [hMe, ← hbW]; simp
  have mN : ∀ a b c d L i, (M a b c d L)[H.length + 4 + i]? = L[i]? := fun a b c d L i => by
    rw [hMe, List.getElem?_append_right (by omega), show H.length + 4 + i - H.length = i + 1 + 1 + 1 + 1 from by omega]; rfl
  have ms : ∀ a b c d a' b' c' d' L, (M a b c d L).set (H.length + 2) (formB a' b' c' d') = M a' b' c' d' L := fun a b c d a' b' c' d' L => by rw [hMe, hMe]; simp
  clear hM
  have hfin : ∀ a b c d L, (⟨a, b, c, d⟩ : Fo) = formT p → ∃ L', M a b c d L = H ++ L' := fun a b c d L _ => ⟨_, hMe _ _ _ _ _⟩
  obtain ⟨z, hz⟩ : ∃ z, z = formB false false false false := ⟨_, rfl⟩
  obtain ⟨b1, hb1⟩ : ∃ b1, b1 = decide (1 < p.funcs.length) := ⟨_, rfl⟩
  obtain ⟨b4, hb4⟩ : ∃ b4, b4 = decide (0 < p.regions.length) := ⟨_, rfl⟩
  have e1 : decide ((1 : Int) < p.funcs.length) = b1 := by rw [hb1]; by_cases h : 1 < p.funcs.length <;> simp [h] <;> omega
  have e4 : decide ((0 : Int) < p.regions.length) = b4 := by rw [hb4]; by_cases h : 0 < p.regions.length <;> simp [h] <;> omega
  refine awp_cut (fun _ => false) (fun _ => none) (fun f H' => H' = H ++ [bP, z, formB b1 false false false] ∧ f 1 = .bp H.length 0 ∧ f 2 = .bp (H.length + 1) 0 ∧ f 3 = .bp (H.length + 2) 0) (by kernel_rfl) ?_ ?_
  · have hVt : ∀ X, V.set (H.length + 2) X = H ++ [bP, z, X] := fun X => by rw [hV, hz]; simp
    simp -dsimp [g1, g2, g3, hV0, hV2, hVt, e1]
  clear g g1 g2 g3 hV hV0 hV1 hV2 hVs V
  rintro g _ ⟨rfl, g1, g2, g3⟩
  obtain ⟨V, hV⟩ : ∃ V, V = H ++ [bP, z, formB b1 false false false] := ⟨_, rfl⟩
  have hV0 : V[H.length]? = some (.box 25 [Rg.sl p.regions, Fc.sl p.funcs]) := by rw [hV, ← hbP]; simp
  have hV2 : V[H.length + 2]? = some (formB b1 false false false) := by rw [hV]; simp
  have hVt : ∀ X, V.set (H.length + 2) X = H ++ [bP, z, X] := fun X => by rw [hV]; simp
  rw [← hV]
  refine awp_cut (fun _ => false) (fun _ => none) (fun f H' => H' = H ++ [bP, z, formB b1 false false b4] ∧ f 1 = .bp H.length 0 ∧ f 2 = .bp (H.length + 1) 0 ∧ f 3 = .bp (H.length + 2) 0) (by kernel_rfl) ?_ ?_
  · simp -dsimp [g1, g2, g3, hV0, hV2, hVt, e4, hb4.symm]
  clear g g1 g2 g3 hV hV0 hV2 hVt V
  rintro g _ ⟨rfl, g1, g2, g3⟩
  obtain ⟨x3, hx3⟩ : ∃ x3, x3 = formB b1 false false b4 := ⟨_, rfl⟩
  rw [← hx3]
  refine awp_cut (fun _ => false) (fun _ => none) (fun f H' => H' = H ++ [bP, z, x3, .box 99 [.v .nilFunc]] ∧ f 1 = .bp H.length 0 ∧ f 2 = .bp (H.length + 1) 0 ∧ f 3 = .bp (H.length + 2) 0 ∧ f 4 = .bp (H.length + 3) 0) (by kernel_rfl) ?_ ?_
  · simp -dsimp [g1, g2, g3]
  clear g g1 g2 g3
  rintro g _ ⟨rfl, g1, g2, g3, g4⟩
  refine awp_cut (fun _ => false) (fun _ => none) (fun f H' => H' = M b1 false false b4 [] ∧ f 1 = .bp H.length 0 ∧ f 2 = .bp (H.length + 1) 0 ∧ f 3 = .bp (H.length + 2) 0 ∧ f 4 = .bp (H.length + 3) 0) (by kernel_rfl) ?_ ?_
  · rw [hMe, ← hz, ← hx3, hbW]
    simp -dsimp [g1, g2, g3, g4]
  clear g g1 g2 g3 g4 hx3 x3
  rw [← hz] at hMe
  clear hz
  rintro g _ ⟨rfl, g1, g2, g3, g4⟩
  -- functions
  refine awp_cutA (fun f H' => FormJ M (formT p) [] H' ∧ f 2 = .bp (H.length + 1) 0 ∧ f 3 = .bp (H.length + 2) 0) ?_ ?_
  rotate_left
  · clear g g1 g2 g3 g4
    rintro g _ ⟨⟨a, b, c, d, L, rfl, h1, h2, h3, h4⟩, g2, g3⟩
    simp only [fcsUse, fcsVar, Bool.or_false] at h1 h2 h3 h4
    refine awp_all (fun _ => false) (fun _ => none) (by kernel_rfl) ?_
    have q1 : ∀ X, ((M a b c d L).set (H.length + 1) X)[H.length + 1]? = some X := fun X => by rw [List.getElem?_set_self (by rw [hMl]; omega)]
    have q2 : ∀ X, ∃ L', (M a b c d L).set (H.length + 1) X = H ++ L' := fun X => ⟨bP :: X :: formB a b c d :: bW :: L, by rw [hMe]; simp⟩
    simp -dsimp [g2, g3, m2, m1, q1]
    obtain ⟨L', hL'⟩ := q2 (formB a b c d)
    rw [hL', h1, h2, h3, h4]
    refine tidy_same rfl ⟨?_, rfl⟩
    rw [formE, if_pos hmay]
  refine awp_cut (fun _ => false) (fun _ => none) (fun f H' => H' = M b1 false false b4 [] ∧ f 2 = .bp (H.length + 1) 0 ∧ f 3 = .bp (H.length + 2) 0 ∧ f 4 = .bp (H.length + 3) 0 ∧ f 25 = Fc.sl p.funcs ∧ f 26 = I p.funcs.length ∧ f 27 = I 0) (by kernel_rfl) ?_ ?_
  · simp -dsimp [g1, g2, g3, g4, m0]
  clear g g1 g2 g3 g4
  rintro g _ ⟨rfl, g2, g3, g4, g25, g26, g27⟩
  refine awp_block ?_
  refine awp_loopI (fun (i : Nat) f H' => FormJ M (formT p) (p.funcs.drop i) H' ∧ f 2 = .bp (H.length + 1) 0 ∧ f 3 = .bp (H.length + 2) 0 ∧ f 4 = .bp (H.length + 3) 0 ∧ f 25 = Fc.sl p.funcs ∧ f 26 = I p.funcs.length ∧ f 27 = I i ∧ i ≤ p.funcs.length) (fun i => p.funcs.length - i) 0
    ⟨⟨b1, false, false, b4, [], rfl, by rw [hb1]; rfl, rfl, rfl, by rw [hb4]; rfl⟩, g2, g3, g4, g25, g26, g27, by omega⟩ ?_
  clear g g2 g3 g4 g25 g26 g27
  rintro i g _ ⟨⟨a, b, c, d, L, rfl, h1, h2, h3, h4⟩, g2, g3, g4, g25, g26, g27, hi⟩
  refine awp_cut (fun _ => false) (fun _ => none) (fun f H' => H' = M a b c d L ∧ f 2 = .bp (H.length + 1) 0 ∧ f 3 = .bp (H.length + 2) 0 ∧ f 4 = .bp (H.length + 3) 0 ∧ f 25 = Fc.sl p.funcs ∧ f 26 = I p.funcs.length ∧ f 27 = I i ∧ f 28 = Bo (decide ((i : Int) < p.funcs.length))) (by kernel_rfl) ?_ ?_
  · simp -dsimp [g2, g3, g4, g25, g26, g27]
  clear g g2 g3 g4 g25 g26 g27
  rintro g _ ⟨rfl, g2, g3, g4, g25, g26, g27, g28⟩
  refine awp_cut (fun _ => false) (fun _ => none) (fun f H' => H' = M a b c d L ∧ f 2 = .bp (H.length + 1) 0 ∧ f 3 = .bp (H.length + 2) 0 ∧ f 4 = .bp (H.length + 3) 0 ∧ f 25 = Fc.sl p.funcs ∧ f 26 = I p.funcs.length ∧ f 27 = I i ∧ i < p.funcs.length) (by kernel_rfl) ?_ ?_
  · simp -dsimp [g28]
    refine condVW_introD (fun hlt => ?_) (fun hlt => ?_)
    · simp -dsimp [g2, g3, g4, g25, g26, g27]
      omega
    · rw [drop_end hlt] at h1 h2 h3 h4
      simp -dsimp [g2, g3]
      exact ⟨a, b, c, d, L, rfl, h1, h2, h3, h4⟩
  clear g g2 g3 g4 g25 g26 g27 g28
  rintro g _ ⟨rfl, g2, g3, g4, g25, g26, g27, hlt⟩
  have hlx : p.funcs[i]? = some p.funcs[i] := List.getElem?_eq_getElem hlt
  have hmx := List.getElem_mem hlt
  rw [drop_cons hlt] at h1 h2 h3 h4
  obtain ⟨x, hx⟩ : ∃ x, x = p.funcs[i] := ⟨_, rfl⟩
  rw [← hx] at hlx hmx h1 h2 h3 h4
  clear hx
  have hxc := hc x hmx
  have hxv := hv x hmx
  rw [fcsUse] at h1 h2
  rw [fcsVar] at h3 h4
  refine awp_cutA (fun f H' => FormJ M (formT p) (p.funcs.drop (i + 1)) H' ∧ f 2 = .bp (H.length + 1) 0 ∧ f 3 = .bp (H.length + 2) 0 ∧ f 4 = .bp (H.length + 3) 0 ∧ f 25 = Fc.sl p.funcs ∧ f 26 = I p.funcs.length ∧ f 27 = I i) ?_ ?_
  rotate_left
  · clear g g2 g3 g4 g25 g26 g27
    rintro g H' ⟨ho, g2, g3, g4, g25, g26, g27⟩
    replace ho := Hid.mk ho
    refine awp_all (fun _ => false) (fun _ => none) (by kernel_rfl) ?_
    simp -dsimp [g2, g3, g4, g25, g26, g27]
    exact ⟨i + 1, by omega, ho.out, wrapS (by omega), by omega⟩
  refine awp_block ?_
  obtain ⟨k, hk⟩ : ∃ k, k = (M a b c d L).length := ⟨_, rfl⟩
  obtain ⟨bF, hbF⟩ : ∃ bF, bF = Blk.box 52 [St x.name, Vr.sl x.params, Vr.sl x.vars, St.sl x.rets, Sm.sl x.body] := ⟨_, rfl⟩
  refine awp_cut (fun _ => false) (fun _ => none) (fun f H' => H' = M a b c d L ++ [bF] ∧ f 2 = .bp (H.length + 1) 0 ∧ f 3 = .bp (H.length + 2) 0 ∧ f 4 = .bp (H.length + 3) 0 ∧ f 25 = Fc.sl p.funcs ∧ f 26 = I p.funcs.length ∧ f 27 = I i ∧ f 6 = .bp k 0) (by kernel_rfl) ?_ ?_
  · rw [hbF, hk]
    simp -dsimp [g2, g3, g4, g25, g26, g27, hlx]
  clear g g2 g3 g4 g25 g26 g27
  rintro g _ ⟨rfl, g2, g3, g4, g25, g26, g27, g6⟩
  rw [hMa]
  rw [hMl] at hk
  have gF : ∀ a b c d R, (M a b c d (L ++ bF :: R))[k]? = some (.box 52 [St x.name, Vr.sl x.params, Vr.sl x.vars, St.sl x.rets, Sm.sl x.body]) := fun a b c d R => by rw [hk, mN, ← hbF]; simp
  clear hk
  refine awp_cutA (fun f H' => FormK M a b (formT p).arrays (formT p).stack (fcsVar 2 (p.funcs.drop (i + 1))) (fcsVar 3 (p.funcs.drop (i + 1))) bF L [] H' ∧ f 2 = .bp (H.length + 1) 0 ∧ f 3 = .bp (H.length + 2) 0 ∧ f 4 = .bp (H.length + 3) 0 ∧ f 25 = Fc.sl p.funcs ∧ f 26 = I p.funcs.length ∧ f 27 = I i ∧ f 6 = .bp k 0) ?_ ?_
  · refine awp_cut (fun _ => false) (fun _ => none) (fun f H' => H' = M a b c d (L ++ [bF]) ∧ f 2 = .bp (H.length + 1) 0 ∧ f 3 = .bp (H.length + 2) 0 ∧ f 4 = .bp (H.length + 3) 0 ∧ f 25 = Fc.sl p.funcs ∧ f 26 = I p.funcs.length ∧ f 27 = I i ∧ f 6 = .bp k 0 ∧ f 32 = Vr.sl x.vars ∧ f 33 = I x.vars.length ∧ f 34 = I 0) (by kernel_rfl) ?_ ?_
    · simp -dsimp [g2, g3, g4, g25, g26, g27, g6, gF]
    clear g g2 g3 g4 g25 g26 g27 g6
    rintro g _ ⟨rfl, g2, g3, g4, g25, g26, g27, g6, g32, g33, g34⟩
    refine awp_block ?_
    refine awp_loopI (fun (j : Nat) f H' => FormK M a b (formT p).arrays (formT p).stack (fcsVar 2 (p.funcs.drop (i + 1))) (fcsVar 3 (p.funcs.drop (i + 1))) bF L (x.vars.drop j) H' ∧ f 2 = .bp (H.length + 1) 0 ∧ f 3 = .bp (H.length + 2) 0 ∧ f 4 = .bp (H.length + 3) 0 ∧ f 25 = Fc.sl p.funcs ∧ f 26 = I p.funcs.length ∧ f 27 = I i ∧ f 6 = .bp k 0 ∧ f 32 = Vr.sl x.vars ∧ f 33 = I x.vars.length ∧ f 34 = I j ∧ j ≤ x.vars.length) (fun j => x.vars.length - j) 0
      ⟨⟨c, d, [], rfl, h3, h4⟩, g2, g3, g4, g25, g26, g27, g6, g32, g33, g34, by omega⟩ ?_
    clear g g2 g3 g4 g25 g26 g27 g6 g32 g33 g34 h3 h4 c d
    rintro j g _ ⟨⟨c, d, L2, rfl, h3, h4⟩, g2, g3, g4, g25, g26, g27, g6, g32, g33, g34, hj⟩
    refine awp_cut (fun _ => false) (fun _ => none) (fun f H' => H' = M a b c d (L ++ bF :: L2) ∧ f 2 = .bp (H.length + 1) 0 ∧ f 3 = .bp (H.length + 2) 0 ∧ f 4 = .bp (H.length + 3) 0 ∧ f 25 = Fc.sl p.funcs ∧ f 26 = I p.funcs.length ∧ f 27 = I i ∧ f 6 = .bp k 0 ∧ f 32 = Vr.sl x.vars ∧ f 33 = I x.vars.length ∧ f 34 = I j ∧ f 35 = Bo (decide ((j : Int) < x.vars.length))) (by kernel_rfl) ?_ ?_
    · simp -dsimp [g2, g3, g4, g25, g26, g27, g6, g32, g33, g34]
    clear g g2 g3 g4 g25 g26 g27 g6 g32 g33 g34
    rintro g _ ⟨rfl, g2, g3, g4, g25, g26, g27, g6, g32, g33, g34, g35⟩
    refine awp_cut (fun _ => false) (fun _ => none) (fun f H' => H' = M a b c d (L ++ bF :: L2) ∧ f 2 = .bp (H.length + 1) 0 ∧ f 3 = .bp (H.length + 2) 0 ∧ f 4 = .bp (H.length + 3) 0 ∧ f 25 = Fc.sl p.funcs ∧ f 26 = I p.funcs.length ∧ f 27 = I i ∧ f 6 = .bp k 0 ∧ f 32 = Vr.sl x.vars ∧ f 33 = I x.vars.length ∧ f 34 = I j ∧ j < x.vars.length) (by kernel_rfl) ?_ ?_
    · simp -dsimp [g35]
      refine condVW_introD (fun hlt2 => ?_) (fun hlt2 => ?_)
      · simp -dsimp [g2, g3, g4, g25, g26, g27, g6, g32, g33, g34]
        omega
      · rw [drop_end hlt2] at h3 h4
        simp -dsimp [g2, g3, g4, g25, g26, g27, g6]
        exact ⟨c, d, L2, rfl, h3, h4⟩
    clear g g2 g3 g4 g25 g26 g27 g6 g32 g33 g34 g35
    rintro g _ ⟨rfl, g2, g3, g4, g25, g26, g27, g6, g32, g33, g34, hlt2⟩
    have hly : x.vars[j]? = some x.vars[j] := List.getElem?_eq_getElem hlt2
    rw [drop_cons hlt2, vrsUse] at h3 h4
    obtain ⟨y, hy⟩ : ∃ y, y = x.vars[j] := ⟨_, rfl⟩
    rw [← hy] at hly h3 h4
    clear hy
    refine awp_cutA (fun f H' => FormK M a b (formT p).arrays (formT p).stack (fcsVar 2 (p.funcs.drop (i + 1))) (fcsVar 3 (p.funcs.drop (i + 1))) bF L (x.vars.drop (j + 1)) H' ∧ f 2 = .bp (H.length + 1) 0 ∧ f 3 = .bp (H.length + 2) 0 ∧ f 4 = .bp (H.length + 3) 0 ∧ f 25 = Fc.sl p.funcs ∧ f 26 = I p.funcs.length ∧ f 27 = I i ∧ f 6 = .bp k 0 ∧ f 32 = Vr.sl x.vars ∧ f 33 = I x.vars.length ∧ f 34 = I j) ?_ ?_
    rotate_left
    · clear g g2 g3 g4 g25 g26 g27 g6 g32 g33 g34
      rintro g H' ⟨ho, g2, g3, g4, g25, g26, g27, g6, g32, g33, g34⟩
      replace ho := Hid.mk ho
      refine awp_all (fun _ => false) (fun _ => none) (by kernel_rfl) ?_
      simp -dsimp [g2, g3, g4, g25, g26, g27, g6, g32, g33, g34]
      exact ⟨j + 1, by omega, ho.out, wrapS (by omega), by omega⟩
    refine awp_block ?_
    obtain ⟨u, hu⟩ : ∃ u, u = (M a b c d (L ++ bF :: L2)).length := ⟨_, rfl⟩
    obtain ⟨bY, hbY⟩ : ∃ bY, bY = Blk.box 39 [St y.name, I y.kind, I y.size, Bo y.secret] := ⟨_, rfl⟩
    refine awp_cut (fun _ => false) (fun _ => none) (fun f H' => H' = M a b c d (L ++ bF :: L2) ++ [bY] ∧ f 2 = .bp (H.length + 1) 0 ∧ f 3 = .bp (H.length + 2) 0 ∧ f 4 = .bp (H.length + 3) 0 ∧ f 25 = Fc.sl p.funcs ∧ f 26 = I p.funcs.length ∧ f 27 = I i ∧ f 6 = .bp k 0 ∧ f 32 = Vr.sl x.vars ∧ f 33 = I x.vars.length ∧ f 34 = I j ∧ f 8 = .bp u 0) (by kernel_rfl) ?_ ?_
    · rw [hbY, hu]
      simp -dsimp [g2, g3, g4, g25, g26, g27, g6, g32, g33, g34, hly]
    clear g g2 g3 g4 g25 g26 g27 g6 g32 g33 g34
    rintro g _ ⟨rfl, g2, g3, g4, g25, g26, g27, g6, g32, g33, g34, g8⟩
    rw [hMa, List.append_assoc, List.cons_append]
    rw [hMl] at hu
    have gY : ∀ a b c d, (M a b c d (L ++ bF :: (L2 ++ [bY])))[u]? = some (.box 39 [St y.name, I y.kind, I y.size, Bo y.secret]) := fun a b c d => by
      rw [hu, mN, ← hbY, List.getElem?_append_right (by simp), List.length_append, Nat.add_sub_cancel_left, List.length_cons, List.getElem?_cons_succ, List.getElem?_append_right (Nat.le_refl _), Nat.sub_self]; rfl
    obtain ⟨L3, hL3⟩ : ∃ L3, L3 = L2 ++ [bY] := ⟨_, rfl⟩
    rw [← hL3] at gY ⊢
    refine awp_cut (fun _ => false) (fun _ => none) (fun f H' => H' = M a b (c || y.kind == 2) d (L ++ bF :: L3) ∧ f 2 = .bp (H.length + 1) 0 ∧ f 3 = .bp (H.length + 2) 0 ∧ f 4 = .bp (H.length + 3) 0 ∧ f 25 = Fc.sl p.funcs ∧ f 26 = I p.funcs.length ∧ f 27 = I i ∧ f 6 = .bp k 0 ∧ f 32 = Vr.sl x.vars ∧ f 33 = I x.vars.length ∧ f 34 = I j ∧ f 8 = .bp u 0) (by kernel_rfl) ?_ ?_
    · clear h3 h4
      cases c <;> simp -dsimp [g2, g3, g4, g25, g26, g27, g6, g32, g33, g34, g8, m2, gY, ms]
    clear g g2 g3 g4 g25 g26 g27 g6 g32 g33 g34 g8
    rintro g _ ⟨rfl, g2, g3, g4, g25, g26, g27, g6, g32, g33, g34, g8⟩
    obtain ⟨c2, hc2⟩ : ∃ c2, c2 = (c || y.kind == 2) := ⟨_, rfl⟩
    rw [← hc2]
    have h3' : (c2 || (vrsUse 2 (x.vars.drop (j + 1)) || fcsVar 2 (p.funcs.drop (i + 1)))) = (formT p).arrays := by rw [← h3, hc2]; simp only [Bool.or_assoc]
    have h4' : ((d || y.kind == 3) || (vrsUse 3 (x.vars.drop (j + 1)) || fcsVar 3 (p.funcs.drop (i + 1)))) = (formT p).stack := by rw [← h4]; simp only [Bool.or_assoc]
    have hdone : FormK M a b (formT p).arrays (formT p).stack (fcsVar 2 (p.funcs.drop (i + 1))) (fcsVar 3 (p.funcs.drop (i + 1))) bF L (x.vars.drop (j + 1)) (M a b c2 (d || y.kind == 3) (L ++ bF :: L3)) := ⟨c2, _, L3, rfl, h3', h4'⟩
    clear h3 h4 h3' h4' h1 h2
    replace hdone := Hid.mk hdone
    refine awp_all (fun _ => false) (fun _ => none) (by kernel_rfl) ?_
    cases d
    · simp -dsimp [g2, g3, g4, g25, g26, g27, g6, g32, g33, g34, g8, m2, gY, ms]
      have := hdone.out
      rwa [Bool.false_or] at this
    · simp -dsimp [g2, g3, g4, g25, g26, g27, g6, g32, g33, g34, g8, m2, gY, ms]
      have := hdone.out
      rwa [Bool.true_or] at this
  · clear g g2 g3 g4 g25 g26 g27 g6 h3 h4 c d
    rintro g _ ⟨⟨c, d, L2, rfl, h3, h4⟩, g2, g3, g4, g25, g26, g27, g6⟩
    simp only [vrsUse, Bool.false_or] at h3 h4
    have cw := fun L => form1_ok _ x.body a b c d (Nat.lt_succ_self _) hxc (M a b c d L) (H.length + 2) (H.length + 3) (by omega) (m2 _ _ _ _ _) (m3 _ _ _ _ _)
    simp only [ms] at cw
    refine awp_all (fun _ => false) (fun _ => none) (by kernel_rfl) ?_
    simp -dsimp [g2, g3, g4, g25, g26, g27, g6, m3, gF]
    refine acallsW_of (cw _) ?_
    rintro e _ ⟨rfl, rfl⟩
    simp -dsimp [g2, g3, g4, g25, g26, g27]
    refine ⟨_, _, c, d, _, rfl, ?_, ?_, h3, h4⟩
    · rw [← h1]; simp only [Bool.or_assoc]
    · rw [← h2]; simp only [Bool.or_assoc]
end Go.Proofs
namespace Go.Proofs
open Go.Mu
structure Pl where
  name : ByteArray
  (at_ size : Int)
@[simp] def Pl.cells (x : Pl) : List AV := [St x.name, I x.at_, I x.size]
abbrev Pl.sl (l : List Pl) : AV := .vs 3 (l.map Pl.cells)
structure Ly where
  places : List Pl
  size : Int
@[simp] def Ly.cells (l : Ly) : List AV := [Pl.sl l.places, I l.size]
def stkV (l : List Vr) : List Vr := l.filter fun v => v.kind == 3
def vars0 (p : Pg) : List Vr := match p.funcs[0]? with | some f => f.vars | none => []
def arrV (p : Pg) : List Vr := stkV (vars0 p)
def laysV (n : Int) : List Vr → List Pl
  | [] => []
  | v :: l => ⟨v.name, n, v.size⟩ :: laysV (n + 8 * v.size) l
def totV : List Vr → Int
  | [] => 0
  | v :: l => 8 * v.size + totV l
def up16 (n : Int) : Int := (n + 15) / 16 * 16
def whyF (p : Pg) : Int := if mayE p ≠ 0 then mayE p else if ((formT p).calls || (formT p).fors || (formT p).arrays) = true then 9 else 0
def layF (p : Pg) : Ly × Int :=
  if whyF p ≠ 0 then (⟨[], 0⟩, whyF p) else if 8192 < up16 (totV (arrV p)) then (⟨[], 0⟩, 5) else (⟨laysV 0 (arrV p), up16 (totV (arrV p))⟩, 0)
def placeB (a : List Vr) (S : Int) (x : Pl) : Bool := a.any (fun v => v.name.toList == x.name.toList && v.size == x.size) && decide (0 ≤ x.at_) && decide (x.at_ ≤ 8192) && decide (x.at_ % 8 = 0) && decide (x.at_ + 8 * x.size ≤ S)
def apartB (x y : Pl) : Bool := !(y.name.toList == x.name.toList) && !(decide (x.at_ < y.at_ + 8 * y.size) && decide (y.at_ < x.at_ + 8 * x.size))
def placesB (a : List Vr) (S : Int) : List Pl → List Pl → Bool
  | _, [] => true
  | ahead, x :: l => placeB a S x && ahead.all (apartB x) && placesB a S (ahead ++ [x]) l
def sizeOkB (S : Int) : Bool := decide (0 ≤ S) && decide (S ≤ 8192) && decide (S % 16 = 0)
def fitB (p : Pg) (l : Ly) : Bool := decide (whyF p = 0) && sizeOkB l.size && decide ((arrV p).length = l.places.length) && placesB (arrV p) l.size [] l.places
def rowB (S : Int) (e : Int) : List Pl → Bool
  | [] => true
  | x :: l => !(decide (x.at_ < e) || !(decide (x.at_ % 8 = 0)) || decide (S - 8 * x.size < x.at_)) && rowB S (x.at_ + 8 * x.size) l
def heldB (a : List Vr) (l : List Pl) : Bool := a.all fun v => l.any fun x => x.name.toList == v.name.toList && x.size == v.size
theorem ba_toList {a b : ByteArray} : (a.toList == b.toList) = true ↔ a = b := by
  rw [beq_iff_eq]
  constructor
  · intro h
    rw [ByteArray.toList_eq, ByteArray.toList_eq] at h
    obtain ⟨⟨a⟩⟩ := a
    obtain ⟨⟨b⟩⟩ := b
    simp only at h
    rw [h]
  · rintro rfl; rfl
theorem held_all {a : List Vr} (hn : (a.map Vr.name).Nodup) : ∀ {l : List Pl}, l.length = a.length → heldB a l = true → (∀ x ∈ l, ∃ v ∈ a, v.name = x.name ∧ v.size = x.size) ∧ (l.map Pl.name).Nodup := by
  induction a with
  | nil => intro l hl _; have : l = [] := List.eq_nil_of_length_eq_zero (by simpa using hl); subst this; simp
  | cons v a ih =>
    intro l hl h
    simp only [heldB, List.all_cons, Bool.and_eq_true] at h
    obtain ⟨h1, h2⟩ := h
    obtain ⟨x, hx, hxx⟩ := List.any_eq_true.1 h1
    rw [Bool.and_eq_true, ba_toList, beq_iff_eq] at hxx
    obtain ⟨s, t, rfl⟩ := List.append_of_mem hx
    simp only [List.map_cons, List.nodup_cons] at hn
    have hh : heldB a (s ++ t) = true := by
      simp only [heldB, List.all_eq_true] at h2 ⊢
      intro w hw
      obtain ⟨y, hy, hyy⟩ := List.any_eq_true.1 (h2 w hw)
      refine List.any_eq_true.2 ⟨y, ?_, hyy⟩
      rw [Bool.and_eq_true, ba_toList, beq_iff_eq] at hyy
      simp only [List.mem_append, List.mem_cons] at hy ⊢
      rcases hy with hy | rfl | hy
      · exact .inl hy
      · exact absurd (List.mem_map_of_mem (f := Vr.name) hw) (by rw [← hyy.1, hxx.1]; exact hn.1)
      · exact .inr hy
    obtain ⟨i1, i2⟩ := ih hn.2 (l := s ++ t) (by simp at hl ⊢; omega) hh
    constructor
    · intro y hy
      simp only [List.mem_append, List.mem_cons] at hy
      rcases hy with hy | rfl | hy
      · obtain ⟨w, hw, e⟩ := i1 y (List.mem_append_left _ hy); exact ⟨w, List.mem_cons_of_mem _ hw, e⟩
      · exact ⟨v, List.mem_cons_self .., hxx.1.symm, hxx.2.symm⟩
      · obtain ⟨w, hw, e⟩ := i1 y (List.mem_append_right _ hy); exact ⟨w, List.mem_cons_of_mem _ hw, e⟩
    · have hp : (s ++ x :: t).Perm (x :: (s ++ t)) := List.perm_middle
      rw [(hp.map Pl.name).nodup_iff, List.map_cons, List.nodup_cons]
      refine ⟨fun hm => ?_, i2⟩
      obtain ⟨y, hy, he⟩ := List.mem_map.1 hm
      obtain ⟨w, hw, e1, _⟩ := i1 y hy
      exact hn.1 (List.mem_map.2 ⟨w, hw, by rw [e1, he, hxx.1]⟩)
theorem all_held {a : List Vr} (hn : (a.map Vr.name).Nodup) {l : List Pl} (hl : l.length = a.length) (h : ∀ x ∈ l, ∃ v ∈ a, v.name = x.name ∧ v.size = x.size) (hd : (l.map Pl.name).Nodup) : heldB a l = true := by
  induction l generalizing a with
  | nil => have : a = [] := List.eq_nil_of_length_eq_zero (by simpa using hl.symm); subst this; rfl
  | cons x l ih =>
    obtain ⟨v, hv, e1, e2⟩ := h x (List.mem_cons_self ..)
    obtain ⟨s, t, rfl⟩ := List.append_of_mem hv
    have hp : (s ++ v :: t).Perm (v :: (s ++ t)) := List.perm_middle
    have hn' := hn
    rw [(hp.map Vr.name).nodup_iff, List.map_cons, List.nodup_cons] at hn'
    simp only [List.map_cons, List.nodup_cons] at hd
    have := ih (a := s ++ t) hn'.2 (by simp at hl ⊢; omega) (fun y hy => by
      obtain ⟨w, hw, q1, q2⟩ := h y (List.mem_cons_of_mem _ hy)
      refine ⟨w, ?_, q1, q2⟩
      simp only [List.mem_append, List.mem_cons] at hw ⊢
      rcases hw with hw | rfl | hw
      · exact .inl hw
      · exact absurd (List.mem_map_of_mem (f := Pl.name) hy) (by rw [← q1, e1]; exact hd.1)
      · exact .inr hw) hd.2
    simp only [heldB, List.all_eq_true] at this ⊢
    intro w hw
    simp only [List.mem_append, List.mem_cons] at hw
    have out : ∀ w ∈ s ++ t, (x :: l).any (fun x => x.name.toList == w.name.toList && x.size == w.size) = true := fun w hw => by
      rw [List.any_cons, this w hw, Bool.or_true]
    rcases hw with hw | rfl | hw
    · exact out w (List.mem_append_left _ hw)
    · rw [List.any_cons, Bool.or_eq_true]
      exact .inl (by rw [Bool.and_eq_true, ba_toList, beq_iff_eq]; exact ⟨e1.symm, e2.symm⟩)
    · exact out w (List.mem_append_right _ hw)
def Dis (x y : Pl) : Prop := ¬ (x.at_ < y.at_ + 8 * y.size ∧ y.at_ < x.at_ + 8 * x.size)
theorem dis_symm {x y : Pl} (h : Dis x y) : Dis y x := fun ⟨a, b⟩ => h ⟨b, a⟩
def goodP (a : List Vr) (S : Int) (x : Pl) : Prop := (∃ v ∈ a, v.name = x.name ∧ v.size = x.size) ∧ 0 ≤ x.at_ ∧ x.at_ % 8 = 0 ∧ x.at_ + 8 * x.size ≤ S
theorem placeB_iff {a : List Vr} {S : Int} (hS : S ≤ 8192) (hs : ∀ v ∈ a, 1 ≤ v.size) (x : Pl) : placeB a S x = true ↔ goodP a S x := by
  unfold placeB goodP
  simp only [Bool.and_eq_true, decide_eq_true_eq, List.any_eq_true, ba_toList]
  simp only [beq_iff_eq]
  constructor
  · rintro ⟨⟨⟨⟨h1, h2⟩, h3⟩, h4⟩, h5⟩; exact ⟨h1, h2, h4, h5⟩
  · rintro ⟨⟨v, hv, e1, e2⟩, h2, h4, h5⟩
    have := hs v hv
    exact ⟨⟨⟨⟨⟨v, hv, e1, e2⟩, h2⟩, by omega⟩, h4⟩, h5⟩
theorem placesB_iff {a : List Vr} {S : Int} (hS : S ≤ 8192) (hs : ∀ v ∈ a, 1 ≤ v.size) : ∀ (l ahead : List Pl), placesB a S ahead l = true ↔ (∀ x ∈ l, goodP a S x) ∧ (∀ x ∈ l, ∀ y ∈ ahead, y.name ≠ x.name ∧ Dis x y) ∧ l.Pairwise (fun y x => y.name ≠ x.name ∧ Dis x y)
  | [], ahead => by simp [placesB]
  | x :: l, ahead => by
    rw [placesB, Bool.and_eq_true, Bool.and_eq_true, placeB_iff hS hs, placesB_iff hS hs l (ahead ++ [x]), List.all_eq_true]
    have e : ∀ y, apartB x y = true ↔ y.name ≠ x.name ∧ Dis x y := fun y => by
      unfold apartB Dis
      rw [Bool.and_eq_true, Bool.not_eq_true', Bool.not_eq_true', ← Bool.not_eq_true, ba_toList, ← Bool.not_eq_true, Bool.and_eq_true, decide_eq_true_eq, decide_eq_true_eq]
    simp only [e, List.mem_cons, List.mem_append, List.pairwise_cons, List.mem_singleton]
    constructor
    · rintro ⟨⟨h1, h2⟩, h3, h4, h5⟩
      refine ⟨?_, ?_, ?_, h5⟩
      · rintro y (rfl | hy)
        · exact h1
        · exact h3 y hy
      · rintro y (rfl | hy) z hz
        · exact h2 z hz
        · exact h4 y hy z (.inl hz)
      · exact fun y hy => h4 y hy x (.inr (.inl rfl))
    · rintro ⟨h1, h2, h3, h5⟩
      refine ⟨⟨h1 x (.inl rfl), fun y hy => h2 x (.inl rfl) y hy⟩, fun y hy => h1 y (.inr hy), ?_, h5⟩
      rintro y hy z (hz | rfl | hz)
      · exact h2 y (.inr hy) z hz
      · exact h3 y hy
      · cases hz
theorem rowB_iff {S : Int} : ∀ (l : List Pl) (e : Int), (∀ x ∈ l, 1 ≤ x.size) → l.Pairwise (fun x y => x.at_ ≤ y.at_) → (rowB S e l = true ↔ (∀ x ∈ l, e ≤ x.at_ ∧ x.at_ % 8 = 0 ∧ x.at_ + 8 * x.size ≤ S) ∧ l.Pairwise (fun x y => Dis x y))
  | [], e, _, _ => by simp [rowB]
  | x :: l, e, hs, hp => by
    rw [List.pairwise_cons] at hp
    have hx := hs x (List.mem_cons_self ..)
    rw [rowB, Bool.and_eq_true, rowB_iff l _ (fun y hy => hs y (List.mem_cons_of_mem _ hy)) hp.2]
    simp only [Bool.not_eq_true', Bool.or_eq_false_iff, decide_eq_false_iff_not, Bool.not_eq_false', decide_eq_true_eq, List.mem_cons, List.pairwise_cons]
    constructor
    · rintro ⟨⟨⟨h1, h2⟩, h3⟩, h4, h5⟩
      refine ⟨?_, ?_, h5⟩
      · rintro y (rfl | hy)
        · exact ⟨by omega, h2, by omega⟩
        · have := h4 y hy; exact ⟨by omega, this.2⟩
      · intro y hy
        have := h4 y hy
        unfold Dis; omega
    · rintro ⟨h1, h2, h3⟩
      have hx1 := h1 x (.inl rfl)
      refine ⟨⟨⟨by omega, hx1.2.1⟩, by omega⟩, fun y hy => ?_, h3⟩
      have hy1 := h1 y (.inr hy)
      have hd := h2 y hy
      have hy2 := hs y (List.mem_cons_of_mem _ hy)
      have := hp.1 y hy
      unfold Dis at hd
      exact ⟨by omega, hy1.2⟩
theorem fit_same {a : List Vr} {S : Int} {l ys : List Pl} (hS : S ≤ 8192) (hs : ∀ v ∈ a, 1 ≤ v.size) (hn : (a.map Vr.name).Nodup) (hl : l.length = a.length) (hh : heldB a l = true) (hp : ys.Perm l) (hr : ys.Pairwise fun x y => x.at_ ≤ y.at_) : rowB S 0 ys = placesB a S [] l := by
  obtain ⟨g1, g2⟩ := held_all hn hl hh
  have hsz : ∀ x ∈ ys, 1 ≤ x.size := fun x hx => by obtain ⟨v, hv, _, e⟩ := g1 x (hp.mem_iff.1 hx); have := hs v hv; omega
  rw [Bool.eq_iff_iff, rowB_iff ys 0 hsz hr, placesB_iff hS hs]
  have hps : ∀ {l : List Pl}, l.Pairwise (fun x y => Dis x y) ↔ l.Pairwise (fun y x => Dis x y) := ⟨fun h => h.imp dis_symm, fun h => h.imp dis_symm⟩
  constructor
  · rintro ⟨h1, h2⟩
    refine ⟨fun x hx => ?_, by simp, ?_⟩
    · have := h1 x (hp.mem_iff.2 hx); exact ⟨g1 x hx, this.1, this.2.1, this.2.2⟩
    · have h2' : l.Pairwise fun x y => Dis x y := (hp.pairwise_iff dis_symm).1 h2
      rw [List.Nodup, List.pairwise_map] at g2
      exact g2.imp₂ (fun _ _ a b => ⟨a, b⟩) (hps.1 h2')
  · rintro ⟨h1, _, h3⟩
    refine ⟨fun x hx => ?_, ?_⟩
    · have := h1 x (hp.mem_iff.1 hx); exact ⟨this.2.1, this.2.2.1, this.2.2.2⟩
    · exact (hp.pairwise_iff dis_symm).2 (hps.2 (h3.imp fun h => h.2))
theorem places_held {a : List Vr} {S : Int} {l : List Pl} (hS : S ≤ 8192) (hs : ∀ v ∈ a, 1 ≤ v.size) (hn : (a.map Vr.name).Nodup) (hl : l.length = a.length) (h : placesB a S [] l = true) : heldB a l = true := by
  rw [placesB_iff hS hs] at h
  refine all_held hn hl (fun x hx => (h.1 x hx).1) ?_
  rw [List.Nodup, List.pairwise_map]
  exact h.2.2.imp fun h => h.1
end Go.Proofs
namespace Go.Proofs
open Go.Mu
theorem tidyF_own {H : List Blk} {R : AE → List Blk → Prop} (hu : underH H.length H = true) (sz : Nat) (t : TypeId) (es : List (List AV)) (L : List Blk) (hz : es.flatten.all AV.frzB = true) (h : R (.ret (.vs sz es)) H) : WeakE (Tidy H R) (.ret (ownS H.length es)) (H ++ ownB t sz es :: L) := by
  by_cases hw : es = []
  · subst hw
    rw [ownS_nil]
    refine tidy_weak (.nil sz) ?_
    exact tidy_same rfl h
  · refine tidy_weak (.refl _) ?_
    rw [ownB, if_neg hw]
    refine tidy_give1 hu sz _ _ hz ?_ ?_
    · rw [frz_own _ _ _ hw]; rfl
    · rw [frz_own _ _ _ hw]; exact h
theorem mapF_frzB {α : Type} (cells : α → List AV) (h : ∀ a, (cells a).all AV.frzB = true) (l : List α) : (l.map cells).flatten.all AV.frzB = true := by
  rw [List.all_eq_true]
  intro c hc
  obtain ⟨e, he, hce⟩ := List.mem_flatten.1 hc
  obtain ⟨x, _, rfl⟩ := List.mem_map.1 he
  exact List.all_eq_true.1 (h x) c hce
theorem vrsF_frzB (l : List Vr) : (l.map Vr.cells).flatten.all AV.frzB = true := mapF_frzB _ (fun x => by simp [AV.frzB]) l
theorem pls_frzB (l : List Pl) : (l.map Pl.cells).flatten.all AV.frzB = true := mapF_frzB _ (fun x => by simp [AV.frzB]) l
structure Pg.OkF (p : Pg) : Prop where
  ok2 : p.Ok2
  body : ∀ f ∈ p.funcs, smsCount f.body ≤ 2^36
  vars : ∀ f ∈ p.funcs, f.vars.length ≤ 2^36
  funcs : p.funcs.length ≤ 2^36
  regions : p.regions.length ≤ 2^36
theorem fmay_ok (p : Pg) (hp : p.OkF) (H : List Blk) : ACalls Tryz.prog 15 [.agg p.cells] H (fun e H' => e = .ret (I (whyF p)) ∧ H' = H) := by
  refine acalls_tidy (acalls_of_vc (hn := fun _ => false) (od := fun _ => none) Tryz.func15 rfl (by kernel_rfl) ?_)
  have cm := fun H => may_ok p hp.ok2 H
  have cf := fun H => form_ok p hp.ok2 hp.body hp.vars hp.funcs hp.regions H
  simp only [Pg.cells] at cm cf
  simp -dsimp
  refine acallsW_det (cm _) ?_
  simp -dsimp
  refine condVW_introNE (fun h1 h1a h1b => ?_) (fun h1 => ?_)
  · simp -dsimp
    exact tidy_same rfl ⟨by rw [whyF, if_pos h1], rfl⟩
  · have hF : formE p = formT p := by rw [formE, if_pos h1]
    have hw : whyF p = if ((formT p).calls || (formT p).fors || (formT p).arrays) = true then 9 else 0 := by rw [whyF, if_neg (by simpa using h1)]
    rw [hw]
    obtain ⟨ca, fo, ar, st, hT⟩ : ∃ a b c d, (⟨a, b, c, d⟩ : Fo) = formT p := ⟨_, _, _, _, rfl⟩
    rw [hF, ← hT] at cf
    rw [← hT]
    simp only [Fo.cells] at cf ⊢
    simp -dsimp
    refine acallsW_det (cf _) ?_
    cases ca
    · cases fo
      · cases ar
        · simp -dsimp
          exact tidy_same rfl ⟨rfl, rfl⟩
        · simp -dsimp
          exact tidy_same rfl ⟨rfl, rfl⟩
      · simp -dsimp
        exact tidy_same rfl ⟨rfl, rfl⟩
    · simp -dsimp
      exact tidy_same rfl ⟨rfl, rfl⟩
theorem stkV_take {l : List Vr} {i : Nat} (h : i < l.length) : stkV (l.take (i + 1)) = stkV (l.take i) ++ (if l[i].kind = 3 then [l[i]] else []) := by
  rw [take_succ' h, stkV, List.filter_append]
  congr 1
  by_cases hk : l[i].kind = 3 <;> simp [hk]
theorem stkV_len (l : List Vr) : (stkV l).length ≤ l.length := List.length_filter_le _ _
theorem arrays_ok (p : Pg) (F : Fc) (hF : p.funcs[0]? = some F) (hv : F.vars.length ≤ 2^36) (H : List Blk) : ACalls Tryz.prog 16 [.agg p.cells] H (fun e H' => e = .ret (Vr.sl (stkV F.vars)) ∧ H' = H) := by
  refine acalls_under fun hu _ => acalls_tidy (acalls_weakE (acalls_spare 1 (acalls_of_vc (hn := fun d => d == 22) (od := fun _ => none) Tryz.func16 rfl (by kernel_rfl) ?_)))
  obtain ⟨bP, hbP⟩ : ∃ bP, bP = Blk.box 25 [Rg.sl p.regions, Fc.sl p.funcs] := ⟨_, rfl⟩
  obtain ⟨M, hM⟩ : ∃ M : List Vr → List Blk → List Blk, M = fun l L => H ++ ownB 39 4 (l.map Vr.cells) :: bP :: L := ⟨_, rfl⟩
  have hMe : ∀ l L, M l L = H ++ ownB 39 4 (l.map Vr.cells) :: bP :: L := fun l L => by rw [hM]
  have mA : ∀ l L R, M l L ++ R = M l (L ++ R) := fun l L R => by rw [hMe, hMe]; simp
  have mL : ∀ l L, (M l L).length = H.length + 2 + L.length := fun l L => by rw [hMe]; simp; omega
  have m0 : ∀ l L, (M l L)[H.length]? = some (ownB 39 4 (l.map Vr.cells)) := fun l L => by rw [hMe]; simp
  have m1 : ∀ l L, (M l L)[H.length + 1]? = some (.box 25 [Rg.sl p.regions, Fc.sl p.funcs]) := fun l L => by rw [hMe, ← hbP]; simp
  have mN : ∀ l L X, (M l (L ++ [X]))[(M l L).length]? = some X := fun l L X => by rw [← mA]; simp
  have mS : ∀ l L X Y, (M l (L ++ [X])).set (M l L).length Y = M l (L ++ [Y]) := fun l L X Y => by rw [← mA, ← mA]; simp
  have s0 : ∀ l L l', (M l L).set H.length (ownB 39 4 (l'.map Vr.cells)) = M l' L := fun l L l' => by rw [hMe, hMe]; simp
  have g0 : H ++ [.pend] ++ [bP] = M [] [] := by rw [hMe]; simp
  have hlen : (H ++ [Blk.pend]).length = H.length + 1 := by simp
  clear hM
  obtain ⟨W, hW⟩ : ∃ W, W = H ++ [Blk.pend] := ⟨_, rfl⟩
  rw [show List.replicate 1 Blk.pend = [.pend] from rfl, ← hW]
  rw [← hW] at g0 hlen
  simp -dsimp [hF]
  rw [← hbP, g0]
  refine loop_rule (hn := fun d => d == 22) (od := fun _ => none) (fun (x : Nat × List Blk) f H' => H' = M (stkV (F.vars.take x.1)) x.2 ∧ f 3 = ownS H.length ((stkV (F.vars.take x.1)).map Vr.cells) ∧ f 10 = Vr.sl F.vars ∧ f 11 = I F.vars.length ∧ f 12 = I x.1 ∧ x.1 ≤ F.vars.length)
    (fun x => F.vars.length - x.1) (by kernel_rfl) (0, []) (by simp [stkV]) ?_
  rintro ⟨i, L⟩ f _ ⟨rfl, f3, f10, f11, f12, hi⟩
  simp only at f3 f12 hi
  simp -dsimp [f3, f10, f11, f12]
  refine condVW_introD (fun hlt => ?_) (fun hlt => ?_)
  · have hlt' : i < F.vars.length := by omega
    have hx := List.getElem?_eq_getElem hlt'
    have ht := stkV_take hlt'
    obtain ⟨v, hv'⟩ : ∃ v, v = F.vars[i] := ⟨_, rfl⟩
    rw [← hv'] at hx ht
    have w1 : IntKind.i64.wrap ((i : Int) + 1) = ((i + 1 : Nat) : Int) := wrapS (by omega)
    have hl1 := stkV_len (F.vars.take i)
    have hl2 : (F.vars.take i).length ≤ F.vars.length := by simp; omega
    by_cases hk : v.kind = 3
    · have hkb : (v.kind == 3) = true := by simpa using hk
      rw [if_pos hk] at ht
      simp -dsimp [f3, f10, f11, f12, hx, mA, mN, mS, hkb]
      refine appendVW_own (es := (stkV (F.vars.take i)).map Vr.cells) (by exact m0 _ _) (by simp; omega) (by simp; omega) ?_
      have hs : (stkV (F.vars.take i)).map Vr.cells ++ [[St v.name, I v.kind, I v.size, Bo v.secret]] = (stkV (F.vars.take (i + 1))).map Vr.cells := by rw [ht]; simp
      rw [hs, s0]
      simp -dsimp [f3, f10, f11, f12]
      exact ⟨i + 1, by omega, ⟨_, rfl⟩, rfl, w1, by omega⟩
    · have hkb : (v.kind == 3) = false := by simpa using hk
      rw [if_neg hk, List.append_nil] at ht
      simp -dsimp [f3, f10, f11, f12, hx, mA, mN, mS, hkb]
      exact ⟨i + 1, by omega, ⟨_, by rw [ht]⟩, by rw [ht], w1, by omega⟩
  · have : F.vars.take i = F.vars := List.take_of_length_le (by omega)
    rw [this] at f3 ⊢
    simp -dsimp [f3]
    rw [hMe]
    exact tidyF_own hu 4 _ _ _ (vrsF_frzB _) ⟨rfl, rfl⟩
theorem up_ok (n : Int) (h0 : 0 ≤ n) (h1 : n ≤ 2^40) (H : List Blk) : ACalls Tryz.prog 17 [I n, I 16] H (fun e H' => e = .ret (I (up16 n)) ∧ H' = H) := by
  refine acalls_tidy (acalls_of_vc (hn := fun _ => false) (od := fun _ => none) Tryz.func17 rfl (by kernel_rfl) ?_)
  have w1 : IntKind.i64.wrap (n + 16) = n + 16 := wrapI (by omega) (by omega)
  have w2 : IntKind.i64.wrap (n + 16 - 1) = n + 15 := by rw [wrapI (by omega) (by omega)]; omega
  have d : (n + 15).tdiv 16 = (n + 15) / 16 := Int.tdiv_eq_ediv_of_nonneg (by omega)
  have w3 : IntKind.i64.wrap ((n + 15) / 16) = (n + 15) / 16 := wrapI (by omega) (by omega)
  have w4 : IntKind.i64.wrap ((n + 15) / 16 * 16) = (n + 15) / 16 * 16 := wrapI (by omega) (by omega)
  simp -dsimp [w1, w2, d, w3, w4]
  exact tidy_now rfl ⟨rfl, rfl⟩
end Go.Proofs
namespace Go.Proofs
open Go.Mu
theorem thenF_inv {a b : Int} (h : thenE a b = 0) : a = 0 ∧ b = 0 := by
  unfold thenE at h
  split at h
  · rename_i ha; exact ⟨ha, h⟩
  · rename_i ha; exact absurd h ha
theorem mustF_inv {b : Bool} {e : Int} (h : mustE b e = 0) (he : e ≠ 0) : b = true := by
  unfold mustE at h
  split at h
  · assumption
  · exact absurd h he
theorem allF_0 {α : Type} {q : α → Int} : ∀ {l : List α}, allE q l = 0 → ∀ a ∈ l, q a = 0
  | [], _, a, h => by cases h
  | x :: l, h, a, ha => by
    rw [allE] at h
    obtain ⟨h1, h2⟩ := thenF_inv h
    rcases List.mem_cons.1 ha with rfl | ha
    · exact h1
    · exact allF_0 h2 a ha
structure ArrIn (p : Pg) (F : Fc) : Prop where
  fn : p.funcs[0]? = some F
  len : (stkV F.vars).length ≤ 64
  sz : ∀ v ∈ stkV F.vars, 1 ≤ v.size ∧ v.size ≤ 512
  arr : arrV p = stkV F.vars
theorem may_arr {p : Pg} (h : mayE p = 0) : ∃ F, ArrIn p F := by
  unfold mayE at h
  obtain ⟨h, _⟩ := thenF_inv h
  unfold manyE at h
  obtain ⟨h0, h⟩ := thenF_inv h
  obtain ⟨_, h⟩ := thenF_inv h
  obtain ⟨h, _⟩ := thenF_inv h
  have h0 := mustF_inv h0 (by decide)
  simp only [Bool.and_eq_true, decide_eq_true_eq] at h0
  have h1 : 0 < p.funcs.length := by omega
  refine ⟨p.funcs[0], List.getElem?_eq_getElem h1, ?_, ?_, ?_⟩
  · have := allF_0 h p.funcs[0] (List.getElem_mem h1)
    unfold manyF at this
    have := mustF_inv (thenF_inv this).1 (by decide)
    simp only [Bool.and_eq_true, decide_eq_true_eq] at this
    have h2 := stkV_len p.funcs[0].vars
    omega
  · intro v hv
    have := allF_0 h p.funcs[0] (List.getElem_mem h1)
    unfold manyF at this
    simp only [stkV, List.mem_filter, beq_iff_eq] at hv
    have := allF_0 (thenF_inv this).2 v (List.mem_append_right _ hv.1)
    unfold manyV at this
    rw [if_pos (.inr hv.2)] at this
    have := mustF_inv this (by decide)
    simpa [Bool.and_eq_true, decide_eq_true_eq] using this
  · unfold arrV vars0
    rw [List.getElem?_eq_getElem h1]
theorem totV_app : ∀ a b : List Vr, totV (a ++ b) = totV a + totV b
  | [], b => by simp [totV]
  | v :: a, b => by rw [List.cons_append, totV, totV, totV_app a b]; omega
theorem laysV_app : ∀ (a : List Vr) (n : Int) (b : List Vr), laysV n (a ++ b) = laysV n a ++ laysV (n + totV a) b
  | [], n, b => by simp [laysV, totV]
  | v :: a, n, b => by rw [List.cons_append, laysV, laysV, laysV_app a, totV, List.cons_append]; congr 3; omega
theorem totV_bnd : ∀ {l : List Vr}, (∀ v ∈ l, 1 ≤ v.size ∧ v.size ≤ 512) → 0 ≤ totV l ∧ totV l ≤ 4096 * l.length
  | [], _ => by simp [totV]
  | v :: l, h => by
    have h1 := h v (List.mem_cons_self ..)
    have h2 := totV_bnd (fun w hw => h w (List.mem_cons_of_mem _ hw))
    rw [totV, List.length_cons]
    omega
theorem laysV_len : ∀ (l : List Vr) (n : Int), (laysV n l).length = l.length
  | [], _ => rfl
  | v :: l, n => by simp [laysV, laysV_len l]
theorem lay_fin {H : List Blk} (hu : underH H.length H = true) (l : List Pl) (n : Int) (L : List Blk) :
    WeakE (Tidy H (fun e H' => e = .ret (.tup [.agg [Pl.sl l, I n], I 0]) ∧ H' = H)) (.ret (.tup [.agg [ownS H.length (l.map Pl.cells), I n], I 0])) (H ++ ownB 41 3 (l.map Pl.cells) :: L) := by
  by_cases hw : l.map Pl.cells = []
  · have : l = [] := by simpa using hw
    subst this
    rw [List.map_nil, ownS_nil]
    refine tidy_weak (r' := .tup [.agg [.vs 3 [], I n], I 0]) (.tupL (.cons (.aggL (.cons (.nil 3) (.cons (.refl _) .nil))) (.cons (.refl _) .nil))) ?_
    exact tidy_same rfl ⟨rfl, rfl⟩
  · refine tidy_weak (.refl _) ?_
    refine tidy_give hu 0 3 41 (l.map Pl.cells) (by rw [ownB, if_neg hw]; rfl) (pls_frzB l) ?_
    have hf : (AV.tup [.agg [ownS H.length (l.map Pl.cells), I n], I 0]).frz (H.length + 0) 3 (l.map Pl.cells) = .tup [.agg [Pl.sl l, I n], I 0] := by
      simp only [AV.frz, frzL, Nat.add_zero]; rw [frz_own _ _ _ hw]
    rw [hf]
    exact tidy_same rfl ⟨rfl, rfl⟩
theorem lay_ok (p : Pg) (hp : p.OkF) (H : List Blk) : ACalls Tryz.prog 7 [.agg p.cells] H (fun e H' => e = .ret (.tup [.agg (layF p).1.cells, I (layF p).2]) ∧ H' = H) := by
  refine acalls_under fun hu _ => acalls_tidy (acalls_weakE (acalls_spare 1 (acalls_of_vc (hn := fun d => d == 31) (od := fun _ => none) Tryz.func7 rfl (by kernel_rfl) ?_)))
  have cm := fun H => fmay_ok p hp H
  simp only [Pg.cells] at cm
  obtain ⟨bP, hbP⟩ : ∃ bP, bP = Blk.box 25 [Rg.sl p.regions, Fc.sl p.funcs] := ⟨_, rfl⟩
  obtain ⟨bR, hbR⟩ : ∃ bR, bR = Blk.box 30 [nilS, I 0] := ⟨_, rfl⟩
  obtain ⟨E, hE⟩ : ∃ E, E = layF p := ⟨_, rfl⟩
  rw [← hE]
  unfold layF at hE
  have finZ : ∀ e L, E = (⟨[], 0⟩, e) → WeakE (Tidy H fun x H' => x = AE.ret (.tup [.agg E.1.cells, I E.2]) ∧ H' = H) (.ret (.tup [.agg [nilS, I 0], I e])) (H ++ L) := fun e L h => by
    rw [h]
    refine tidy_weak (r' := .tup [.agg [.vs 3 [], I 0], I e]) (.tupL (.cons (.aggL (.cons (.nil 3) (.cons (.refl _) .nil))) (.cons (.refl _) .nil))) ?_
    exact tidy_same rfl ⟨rfl, rfl⟩
  obtain ⟨V, hV⟩ : ∃ V, V = H ++ [.pend, bP, bR] := ⟨_, rfl⟩
  have g0 : H ++ [.pend] ++ [bP] ++ [bR] = V := by rw [hV]; simp
  have hlen : (H ++ [Blk.pend]).length = H.length + 1 := by simp
  have hlen2 : (H ++ [Blk.pend] ++ [bP]).length = H.length + 2 := by simp
  have hVl : V.length = H.length + 3 := by rw [hV]; simp
  have v1 : V[H.length + 1]? = some (.box 25 [Rg.sl p.regions, Fc.sl p.funcs]) := by rw [hV, ← hbP]; simp
  have v2 : V[H.length + 2]? = some (.box 30 [nilS, I 0]) := by rw [hV, ← hbR]; simp
  have v2s : V.set (H.length + 2) (.box 30 [nilS, I 0]) = V := by rw [hV, ← hbR]; simp
  have vL : ∃ L, V = H ++ L := ⟨_, hV⟩
  obtain ⟨W, hW⟩ : ∃ W, W = H ++ [Blk.pend] := ⟨_, rfl⟩
  rw [show List.replicate 1 Blk.pend = [.pend] from rfl, ← hW]
  rw [← hW] at g0 hlen hlen2
  have hlen3 : W.length = H.length + 1 := hlen
  simp -dsimp [hlen]
  rw [← hbP, ← hbR]
  rw [show W ++ [bP, bR] = V by rw [← g0]; simp]
  refine acallsW_det (cm _) ?_
  simp -dsimp
  refine condVW_introNE (fun h1 h1a h1b => ?_) (fun h1 => ?_)
  · rw [if_pos h1] at hE
    simp -dsimp [v2, v2s]
    obtain ⟨L, hL⟩ := vL
    rw [hL]
    exact finZ _ _ hE
  rw [if_neg (by simpa using h1)] at hE
  have hm : mayE p = 0 := by
    by_cases hm : mayE p = 0
    · exact hm
    · rw [whyF, if_pos hm] at h1; exact absurd h1 hm
  obtain ⟨F, hF⟩ := may_arr hm
  have hFv := hp.vars F (List.mem_of_getElem? hF.fn)
  have ca := fun H => arrays_ok p F hF.fn hFv H
  simp only [Pg.cells] at ca
  rw [hF.arr] at hE
  obtain ⟨A, hA⟩ : ∃ A, A = stkV F.vars := ⟨_, rfl⟩
  have hAl := hF.len
  have hAs := hF.sz
  rw [← hA] at hE hAl hAs ca
  obtain ⟨M, hM⟩ : ∃ M : List Pl → Int → List Blk → List Blk, M = fun l n L => H ++ ownB 41 3 (l.map Pl.cells) :: bP :: bR :: .box 30 [ownS H.length (l.map Pl.cells), I n] :: L := ⟨_, rfl⟩
  have hMe : ∀ l n L, M l n L = H ++ ownB 41 3 (l.map Pl.cells) :: bP :: bR :: .box 30 [ownS H.length (l.map Pl.cells), I n] :: L := fun l n L => by rw [hM]
  have mA : ∀ l n L R, M l n L ++ R = M l n (L ++ R) := fun l n L R => by rw [hMe, hMe]; simp
  have mL : ∀ l n L, (M l n L).length = H.length + 4 + L.length := fun l n L => by rw [hMe]; simp; omega
  have m0 : ∀ l n L, (M l n L)[H.length]? = some (ownB 41 3 (l.map Pl.cells)) := fun l n L => by rw [hMe]; simp
  have m2 : ∀ l n L, (M l n L)[H.length + 2]? = some (.box 30 [nilS, I 0]) := fun l n L => by rw [hMe, ← hbR]; simp
  have m3 : ∀ l n L, (M l n L)[H.length + 3]? = some (.box 30 [ownS H.length (l.map Pl.cells), I n]) := fun l n L => by rw [hMe]; simp
  have mN : ∀ l n (l' : List Pl) n' L X, (M l' n' (L ++ [X]))[(M l n L).length]? = some X := fun l n l' n' L X => by
    have e : (M l n L).length = (M l' n' L).length := by rw [mL, mL]
    rw [e, ← mA]; simp
  have mS : ∀ l n L X Y, (M l n (L ++ [X])).set (M l n L).length Y = M l n (L ++ [Y]) := fun l n L X Y => by rw [← mA, ← mA]; simp
  have s3 : ∀ l n n' L, (M l n L).set (H.length + 3) (.box 30 [ownS H.length (l.map Pl.cells), I n']) = M l n' L := fun l n n' L => by rw [hMe, hMe]; simp
  have s03 : ∀ l n (l' : List Pl) L, ((M l n L).set H.length (ownB 41 3 (l'.map Pl.cells))).set (H.length + 3) (.box 30 [ownS H.length (l'.map Pl.cells), I n]) = M l' n L := fun l n l' L => by rw [hMe, hMe]; simp
  have g03 : ∀ l n (l' : List Pl) L, ((M l n L).set H.length (ownB 41 3 (l'.map Pl.cells)))[H.length + 3]? = some (.box 30 [ownS H.length (l.map Pl.cells), I n]) := fun l n l' L => by rw [hMe]; simp
  have hMV : V ++ [.box 30 [nilS, I 0]] = M [] 0 [] := by rw [hMe, hV]; simp
  clear hM
  have v1' : (V ++ [Blk.box 30 [nilS, I 0]])[H.length + 1]? = some (.box 25 [Rg.sl p.regions, Fc.sl p.funcs]) := get_app_old v1 _
  simp -dsimp [v1']
  refine acallsW_det (ca _) ?_
  simp -dsimp
  rw [hMV]
  refine loop_rule (hn := fun d => d == 31) (od := fun _ => none) (fun (x : Nat × List Blk) f H' => H' = M (laysV 0 (A.take x.1)) (totV (A.take x.1)) x.2 ∧ f 2 = .bp (H.length + 2) 0 ∧ f 5 = .bp (H.length + 3) 0 ∧ f 15 = Vr.sl A ∧ f 16 = I A.length ∧ f 17 = I x.1 ∧ x.1 ≤ A.length)
    (fun x => A.length - x.1) (by kernel_rfl) (0, []) (by simp [laysV, totV, hVl]) ?_
  rintro ⟨i, L⟩ f _ ⟨rfl, f2, f5, f15, f16, f17, hi⟩
  simp only at f17 hi
  simp -dsimp [f2, f5, f15, f16, f17]
  refine condVW_introD (fun hlt => ?_) (fun hlt => ?_)
  · have hlt' : i < A.length := by omega
    have hx := List.getElem?_eq_getElem hlt'
    have hsx := hAs A[i] (List.getElem_mem hlt')
    have ht : A.take (i + 1) = A.take i ++ [A[i]] := List.take_succ_eq_append_getElem hlt'
    have hb := totV_bnd (l := A.take i) (fun v hv => hAs v (List.mem_of_mem_take hv))
    have hbl : (A.take i).length = i := by simp; omega
    obtain ⟨v, hv⟩ : ∃ v, v = A[i] := ⟨_, rfl⟩
    rw [← hv] at hx hsx ht
    have w1 : IntKind.i64.wrap ((i : Int) + 1) = ((i + 1 : Nat) : Int) := wrapS (by omega)
    have w2 : IntKind.i64.wrap (8 * v.size) = 8 * v.size := wrapI (by omega) (by omega)
    obtain ⟨n, hn⟩ : ∃ n, n = totV (A.take i) := ⟨_, rfl⟩
    obtain ⟨l, hl⟩ : ∃ l, l = laysV 0 (A.take i) := ⟨_, rfl⟩
    have hll : l.length = i := by rw [hl, laysV_len, hbl]
    rw [← hn] at hb ⊢
    rw [← hl]
    have w3 : IntKind.i64.wrap (n + 8 * v.size) = n + 8 * v.size := wrapI (by omega) (by omega)
    have hT : totV (A.take (i + 1)) = n + 8 * v.size := by rw [ht, totV_app, ← hn]; simp [totV]
    have hLy : laysV 0 (A.take (i + 1)) = l ++ [⟨v.name, n, v.size⟩] := by rw [ht, laysV_app, ← hl, ← hn]; simp [laysV]
    simp -dsimp [f2, f5, f15, f16, f17, hx, mA, mN, mS, m3]
    refine appendVW_own (es := l.map Pl.cells) (by exact m0 _ _ _) (by simp; omega) (by simp; omega) ?_
    have hs : l.map Pl.cells ++ [[St v.name, I n, I v.size]] = (l ++ [(⟨v.name, n, v.size⟩ : Pl)]).map Pl.cells := by simp
    rw [hs, ← hLy]
    simp -dsimp [f2, f5, f15, f16, f17, mA, mN, mS, g03, s03, m3, w2, w3, s3]
    exact ⟨i + 1, by omega, ⟨_, by rw [hT]⟩, w1, by omega⟩
  · have hti : A.take i = A := List.take_of_length_le (by omega)
    rw [hti]
    have hb := totV_bnd hAs
    have cu := fun H => up_ok (totV A) hb.1 (by omega) H
    obtain ⟨n, hn⟩ : ∃ n, n = totV A := ⟨_, rfl⟩
    rw [← hn] at hE cu ⊢
    simp -dsimp [f2, f5, m3]
    refine acallsW_det (cu _) ?_
    simp -dsimp [f2, f5, m3, s3]
    refine condVW_introD (fun hgt => ?_) (fun hgt => ?_)
    · rw [if_pos (by omega)] at hE
      have m2s : ∀ l n L, (M l n L).set (H.length + 2) (.box 30 [nilS, I 0]) = M l n L := fun l n L => by rw [hMe, ← hbR]; simp
      simp -dsimp [f2, f5, m2, m2s]
      rw [hMe]
      exact finZ _ _ hE
    · rw [if_neg (by omega)] at hE
      have gR : ∀ l n L X, ((M l n L).set (H.length + 2) X)[H.length + 2]? = some X := fun l n L X => by rw [hMe]; simp
      have eR : ∀ l n L X, (M l n L).set (H.length + 2) X = H ++ ownB 41 3 (l.map Pl.cells) :: ([bP, X, .box 30 [ownS H.length (l.map Pl.cells), I n]] ++ L) := fun l n L X => by rw [hMe]; simp
      simp -dsimp [f2, f5, m2, m3, gR]
      rw [eR, hE]
      exact lay_fin hu _ _ _
end Go.Proofs
