/- On the way: handles kept free, rows given away that may be empty, boxes told less of. -/
import Derived.Test.YtihlekehnihnpaaGreatFwWtoL6
import Derived.Test.YtihlekehnihnpaaGreatG1toG20
set_option linter.unusedVariables false
set_option linter.unusedSimpArgs false
set_option maxHeartbeats 4000000
set_option maxRecDepth 100000
namespace Go.Mu
open Go.RowKit (Below)
section
variable {P : Program} {n : Nat} {c : Code} {Q : AQ}
end
end Go.Mu
namespace Go.Mu
inductive FT where
  | lin (p : OPlan)
  | fork (pre : List Nat) (ats : FT)
  | alt (i : Nat) (late : List Nat) (t more : FT)
  | none
section
variable {P : Program} {n : Nat} {pu : Nat → Bool} {ops : Array Oper} {Q : AQ}
variable {hn : Nat → Bool}
end
end Go.Mu
namespace Go.Proofs
open Go.Mu
end Go.Proofs
namespace Go.Proofs
open Go.Mu
end Go.Proofs
namespace Go.Proofs
open Go.Mu
structure Pg.OkS (p : Pg) : Prop where
  regions : p.regions.length ≤ 2^40
  funcs : p.funcs.length ≤ 2^40
  params : ∀ f ∈ p.funcs, f.params.length ≤ 2^40
  vars : ∀ f ∈ p.funcs, f.vars.length ≤ 2^40
  rets : ∀ f ∈ p.funcs, f.rets.length ≤ 2^40
  body : ∀ f ∈ p.funcs, smsCount f.body ≤ 2^40
end Go.Proofs
namespace Go.Proofs
open Go.Mu
theorem tidy_ownR {H : List Blk} {R : AE → List Blk → Prop} (hu : underH H.length H = true) (sz : Nat) (t : TypeId) (es : List (List AV)) (L : List Blk) (hz : es.flatten.all AV.frzB = true) (h : R (.ret (.vs sz es)) H) : WeakE (Tidy H R) (.ret (ownS H.length es)) (H ++ ownB t sz es :: L) := by
  by_cases hw : es = []
  · subst hw
    rw [ownS_nil]
    refine tidy_weak (.nil sz) ?_
    exact tidy_same rfl h
  · refine tidy_weak (.refl _) ?_
    rw [ownB, if_neg hw]
    refine tidy_give1 hu sz _ _ hz ?_ ?_
    · rw [frz_own _ _ _ hw]; rfl
    · rw [frz_own _ _ _ hw]; exact h
theorem map_frzB {α : Type} (cells : α → List AV) (h : ∀ a, (cells a).all AV.frzB = true) (l : List α) : (l.map cells).flatten.all AV.frzB = true := by
  rw [List.all_eq_true]
  intro c hc
  obtain ⟨e, he, hce⟩ := List.mem_flatten.1 hc
  obtain ⟨x, _, rfl⟩ := List.mem_map.1 he
  exact List.all_eq_true.1 (h x) c hce
theorem exs_frzB (l : List Ex) : (l.map Ex.cells).flatten.all AV.frzB = true := map_frzB _ (fun x => by simp [AV.frzB]) l
theorem sms_frzB (l : List Sm) : (l.map Sm.cells).flatten.all AV.frzB = true := map_frzB _ (fun x => by simp [AV.frzB]) l
theorem fcs_frzB (l : List Fc) : (l.map Fc.cells).flatten.all AV.frzB = true := map_frzB _ (fun x => by simp [AV.frzB]) l
theorem vrs_frzB (l : List Vr) : (l.map Vr.cells).flatten.all AV.frzB = true := map_frzB _ (fun x => by simp [AV.frzB]) l
theorem rgs_frzB (l : List Rg) : (l.map Rg.cells).flatten.all AV.frzB = true := map_frzB _ (fun x => by simp [AV.frzB]) l
theorem strs_frzB (l : List ByteArray) : (l.map fun s => [St s]).flatten.all AV.frzB = true := map_frzB _ (fun x => by simp [AV.frzB]) l
theorem take_succV {α : Type} {l : List α} {i : Nat} (h : i < l.length) : l.take (i + 1) = l.take i ++ [l[i]] := List.take_succ_eq_append_getElem h
def RowM (t sz : Nat) (H : List Blk) (es : List (List AV)) (x : AV) (H' : List Blk) : Prop := ∃ L, H' = H ++ ownB t sz es :: L ∧ x = ownS H.length es
theorem cloneExprs_ok (m : Nat) : ∀ (l : List Ex), exsCount l < m → exsCount l ≤ 2^40 → ∀ (H : List Blk), ACalls Tryz.prog 133 [Ex.sl l] H (fun e H' => e = .ret (Ex.sl l) ∧ H' = H) := by
  induction m with
  | zero => intro l h; omega
  | succ m ih =>
    intro l hm hc H
    refine acalls_under fun hu _ => acalls_tidy (acalls_weakE (acalls_spare 1 (acalls_of_awp Tryz.func133 rfl (by kernel_rfl) ?_)))
    have hlen := exs_len l
    have hrg : ∀ X L, (H ++ X :: L)[H.length]? = some X := fun X L => by simp
    have hrs : ∀ X Y L, (H ++ X :: L).set H.length Y = H ++ Y :: L := fun X Y L => by simp
    refine awp_cut (fun _ => false) (fun _ => none) (fun f H' => H' = H ++ [Blk.pend] ∧ f 0 = Ex.sl l) (by kernel_rfl) ?_ ?_
    · simp -dsimp
    rintro g _ ⟨rfl, g0⟩
    refine awp_cut (fun _ => false) (fun _ => none) (fun f H' => H' = H ++ [Blk.pend] ∧ f 0 = Ex.sl l ∧ f 3 = nilS) (by kernel_rfl) ?_ ?_
    · simp -dsimp [g0]
    clear g g0
    rintro g _ ⟨rfl, g0, g3⟩
    refine awp_cutA (fun f H' => RowM 53 4 H (l.map Ex.cells) (f 3) H') ?_ ?_
    rotate_left
    · clear g g0 g3
      rintro g _ ⟨L, rfl, g3⟩
      refine awp_all (fun _ => false) (fun _ => none) (by kernel_rfl) ?_
      simp -dsimp [g3]
      exact tidy_ownR hu 4 53 _ L (exs_frzB l) ⟨rfl, rfl⟩
    refine awp_cut (fun _ => false) (fun _ => none) (fun f H' => H' = H ++ [Blk.pend] ∧ f 6 = Ex.sl l ∧ f 3 = nilS ∧ f 7 = I l.length ∧ f 8 = I 0) (by kernel_rfl) ?_ ?_
    · simp -dsimp [g0, g3]
    clear g g0 g3
    rintro g _ ⟨rfl, g6, g3, g7, g8⟩
    refine awp_block ?_
    refine awp_loopI (fun (i : Nat) f H' => RowM 53 4 H ((l.map Ex.cells).take i) (f 3) H' ∧ f 6 = Ex.sl l ∧ f 7 = I l.length ∧ f 8 = I i ∧ i ≤ l.length) (fun i => l.length - i) 0
      ⟨⟨[], by simp [ownB], by rw [g3]; exact (ownS_nil _).symm⟩, g6, g7, g8, by omega⟩ ?_
    clear g g6 g3 g7 g8
    rintro i g _ ⟨⟨L, rfl, g3⟩, g6, g7, g8, hi⟩
    obtain ⟨out, hout⟩ : ∃ out, out = (l.map Ex.cells).take i := ⟨_, rfl⟩
    have hol : out.length = i := by rw [hout]; simp; omega
    rw [← hout] at g3 ⊢
    refine awp_cut (fun _ => false) (fun _ => none) (fun f H' => H' = H ++ ownB 53 4 out :: L ∧ f 6 = Ex.sl l ∧ f 7 = I l.length ∧ f 8 = I i ∧ f 3 = ownS H.length out ∧ f 9 = Bo (decide ((i : Int) < l.length))) (by kernel_rfl) ?_ ?_
    · simp -dsimp [g6, g7, g8, g3]
    clear g g6 g7 g8 g3
    rintro g _ ⟨rfl, g6, g7, g8, g3, g9⟩
    refine awp_cut (fun _ => false) (fun _ => none) (fun f H' => H' = H ++ ownB 53 4 out :: L ∧ f 6 = Ex.sl l ∧ f 7 = I l.length ∧ f 8 = I i ∧ f 3 = ownS H.length out ∧ i < l.length) (by kernel_rfl) ?_ ?_
    · simp -dsimp [g9]
      refine condVW_introD (fun hlt => ?_) (fun hlt => ?_)
      · simp -dsimp [g6, g7, g8, g3]
        omega
      · have : out = l.map Ex.cells := by rw [hout]; exact List.take_of_length_le (by simp; omega)
        simp -dsimp [g3]
        exact ⟨L, by rw [this], by rw [this]⟩
    clear g g6 g7 g8 g3 g9
    rintro g _ ⟨rfl, g6, g7, g8, g3, hlt⟩
    have hgx := exs_get hlt
    have hcx := Ex.count_eq l[i]
    have hlx : l[i]? = some l[i] := List.getElem?_eq_getElem hlt
    have htk : (l.map Ex.cells).take (i + 1) = out ++ [l[i].cells] := by rw [take_succV (by simpa using hlt), List.getElem_map, hout]
    obtain ⟨x, hx⟩ : ∃ x, x = l[i] := ⟨_, rfl⟩
    rw [← hx] at hgx hcx hlx htk
    clear hx hout
    have cr := fun H => ih x.args (by omega) (by omega) H
    simp only [Ex.cells_eq] at htk
    refine awp_cutA (fun f H' => RowM 53 4 H ((l.map Ex.cells).take (i + 1)) (f 3) H' ∧ f 6 = Ex.sl l ∧ f 7 = I l.length ∧ f 8 = I i) ?_ ?_
    rotate_left
    · clear g g6 g7 g8 g3
      rintro g H' ⟨ho, g6, g7, g8⟩
      replace ho := Hid.mk ho
      refine awp_all (fun _ => false) (fun _ => none) (by kernel_rfl) ?_
      simp -dsimp [g6, g7, g8]
      exact ⟨i + 1, by omega, ho.out, wrapS (by omega), by omega⟩
    refine awp_block ?_
    rw [htk]
    refine awp_all (fun d => d == 19) (fun _ => none) (by kernel_rfl) ?_
    simp -dsimp [g6, g7, g8, g3, hlx]
    refine acallsW_det (cr _) ?_
    simp -dsimp [g6, g7, g8, g3, hlx]
    refine appendVW_own (k := H.length) (es := out) (by rw [hrg]) (by simp; omega) (by simp; omega) ?_
    rw [hrs]
    simp -dsimp [g6, g7, g8, g3, hlx]
    exact ⟨_, rfl, rfl⟩
end Go.Proofs
namespace Go.Proofs
open Go.Mu
theorem cloneV_ok (l : List Vr) (hl : l.length ≤ 2^40) (H : List Blk) : ACalls Tryz.prog 99 [Vr.sl l] H (fun e H' => e = .ret (Vr.sl l) ∧ H' = H) := by
  refine acalls_under fun hu _ => acalls_tidy (acalls_weakE (acalls_of_vc (hn := fun d => d == 5 || d == 7) (od := fun _ => none) Tryz.func99 rfl (by kernel_rfl) ?_))
  have fin : ∀ L, WeakE (Tidy H fun e H' => e = AE.ret (Vr.sl l) ∧ H' = H) (.ret (.hs H.length 0 l.length l.length)) (H ++ .row 67 4 (l.map Vr.cells) :: L) := fun L => by
    refine tidy_weak (.refl _) ?_
    refine tidy_give1 hu 4 _ _ (vrs_frzB l) ?_ ?_
    · simp [AV.frz, AV.under]
    · have : (AV.hs H.length 0 l.length l.length).frz H.length 4 (l.map Vr.cells) = Vr.sl l := by
        simp [AV.frz]
        exact List.take_of_length_le (by simp)
      rw [this]
      exact ⟨rfl, rfl⟩
  simp -dsimp
  refine slNilW_vs (fun hne => ?_) (fun he => ⟨?_, ?_⟩)
  · simp -dsimp
    refine appendVW_hs (es := []) (by simp) rfl rfl (by simp; omega) (by simp; omega) ?_
    simp -dsimp
    simpa using fin []
  · have : l = [] := by simpa using he
    simp -dsimp
    subst this
    refine tidy_weak (.nil 4) ?_
    exact tidy_now rfl ⟨rfl, rfl⟩
  · simp -dsimp
    refine appendVW_hs (es := []) (by simp) rfl rfl (by simp; omega) (by simp; omega) ?_
    simp -dsimp
    simpa using fin []
theorem cloneR_ok (l : List Rg) (hl : l.length ≤ 2^40) (H : List Blk) : ACalls Tryz.prog 98 [Rg.sl l] H (fun e H' => e = .ret (Rg.sl l) ∧ H' = H) := by
  refine acalls_under fun hu _ => acalls_tidy (acalls_weakE (acalls_of_vc (hn := fun d => d == 5 || d == 7) (od := fun _ => none) Tryz.func98 rfl (by kernel_rfl) ?_))
  have fin : ∀ L, WeakE (Tidy H fun e H' => e = AE.ret (Rg.sl l) ∧ H' = H) (.ret (.hs H.length 0 l.length l.length)) (H ++ .row 103 4 (l.map Rg.cells) :: L) := fun L => by
    refine tidy_weak (.refl _) ?_
    refine tidy_give1 hu 4 _ _ (rgs_frzB l) ?_ ?_
    · simp [AV.frz, AV.under]
    · have : (AV.hs H.length 0 l.length l.length).frz H.length 4 (l.map Rg.cells) = Rg.sl l := by
        simp [AV.frz]
        exact List.take_of_length_le (by simp)
      rw [this]
      exact ⟨rfl, rfl⟩
  simp -dsimp
  refine slNilW_vs (fun hne => ?_) (fun he => ⟨?_, ?_⟩)
  · simp -dsimp
    refine appendVW_hs (es := []) (by simp) rfl rfl (by simp; omega) (by simp; omega) ?_
    simp -dsimp
    simpa using fin []
  · have : l = [] := by simpa using he
    simp -dsimp
    subst this
    refine tidy_weak (.nil 4) ?_
    exact tidy_now rfl ⟨rfl, rfl⟩
  · simp -dsimp
    refine appendVW_hs (es := []) (by simp) rfl rfl (by simp; omega) (by simp; omega) ?_
    simp -dsimp
    simpa using fin []
theorem cloneS_ok (l : List ByteArray) (hl : l.length ≤ 2^40) (H : List Blk) : ACalls Tryz.prog 100 [St.sl l] H (fun e H' => e = .ret (St.sl l) ∧ H' = H) := by
  refine acalls_under fun hu _ => acalls_tidy (acalls_weakE (acalls_of_vc (hn := fun d => d == 5 || d == 7) (od := fun _ => none) Tryz.func100 rfl (by kernel_rfl) ?_))
  have fin : ∀ L, WeakE (Tidy H fun e H' => e = AE.ret (St.sl l) ∧ H' = H) (.ret (.hs H.length 0 l.length l.length)) (H ++ .row 9 1 (l.map (fun s => [St s])) :: L) := fun L => by
    refine tidy_weak (.refl _) ?_
    refine tidy_give1 hu 1 _ _ (strs_frzB l) ?_ ?_
    · simp [AV.frz, AV.under]
    · have : (AV.hs H.length 0 l.length l.length).frz H.length 1 (l.map (fun s => [St s])) = St.sl l := by
        simp [AV.frz]
        exact List.take_of_length_le (by simp)
      rw [this]
      exact ⟨rfl, rfl⟩
  simp -dsimp
  refine slNilW_vs (fun hne => ?_) (fun he => ⟨?_, ?_⟩)
  · simp -dsimp
    refine appendVW_hs (es := []) (by simp) rfl rfl (by simp; omega) (by simp; omega) ?_
    simp -dsimp
    simpa using fin []
  · have : l = [] := by simpa using he
    simp -dsimp
    subst this
    refine tidy_weak (.nil 1) ?_
    exact tidy_now rfl ⟨rfl, rfl⟩
  · simp -dsimp
    refine appendVW_hs (es := []) (by simp) rfl rfl (by simp; omega) (by simp; omega) ?_
    simp -dsimp
    simpa using fin []
end Go.Proofs
namespace Go.Proofs
open Go.Mu
theorem cloneStmts_ok (m : Nat) : ∀ (l : List Sm), smsCount l < m → smsCount l ≤ 2^36 → ∀ (H : List Blk), ACalls Tryz.prog 101 [Sm.sl l] H (fun e H' => e = .ret (Sm.sl l) ∧ H' = H) := by
  induction m with
  | zero => intro l h; omega
  | succ m ih =>
    intro l hm hc H
    refine acalls_under fun hu _ => acalls_tidy (acalls_weakE (acalls_spare 1 (acalls_of_awp Tryz.func101 rfl (by kernel_rfl) ?_)))
    have hlen := sms_len l
    have hrg : ∀ X L, (H ++ X :: L)[H.length]? = some X := fun X L => by simp
    have hrs : ∀ X Y L, (H ++ X :: L).set H.length Y = H ++ Y :: L := fun X Y L => by simp
    refine awp_cut (fun _ => false) (fun _ => none) (fun f H' => H' = H ++ [Blk.pend] ∧ f 0 = Sm.sl l) (by kernel_rfl) ?_ ?_
    · simp -dsimp
    rintro g _ ⟨rfl, g0⟩
    refine awp_cut (fun _ => false) (fun _ => none) (fun f H' => H' = H ++ [Blk.pend] ∧ f 0 = Sm.sl l ∧ f 3 = nilS) (by kernel_rfl) ?_ ?_
    · simp -dsimp [g0]
    clear g g0
    rintro g _ ⟨rfl, g0, g3⟩
    refine awp_cutA (fun f H' => RowM 57 16 H (l.map Sm.cells) (f 3) H') ?_ ?_
    rotate_left
    · clear g g0 g3
      rintro g _ ⟨L, rfl, g3⟩
      refine awp_all (fun _ => false) (fun _ => none) (by kernel_rfl) ?_
      simp -dsimp [g3]
      exact tidy_ownR hu 16 57 _ L (sms_frzB l) ⟨rfl, rfl⟩
    refine awp_cut (fun _ => false) (fun _ => none) (fun f H' => H' = H ++ [Blk.pend] ∧ f 6 = Sm.sl l ∧ f 3 = nilS ∧ f 7 = I l.length ∧ f 8 = I 0) (by kernel_rfl) ?_ ?_
    · simp -dsimp [g0, g3]
    clear g g0 g3
    rintro g _ ⟨rfl, g6, g3, g7, g8⟩
    refine awp_block ?_
    refine awp_loopI (fun (i : Nat) f H' => RowM 57 16 H ((l.map Sm.cells).take i) (f 3) H' ∧ f 6 = Sm.sl l ∧ f 7 = I l.length ∧ f 8 = I i ∧ i ≤ l.length) (fun i => l.length - i) 0
      ⟨⟨[], by simp [ownB], by rw [g3]; exact (ownS_nil _).symm⟩, g6, g7, g8, by omega⟩ ?_
    clear g g6 g3 g7 g8
    rintro i g _ ⟨⟨L, rfl, g3⟩, g6, g7, g8, hi⟩
    obtain ⟨out, hout⟩ : ∃ out, out = (l.map Sm.cells).take i := ⟨_, rfl⟩
    have hol : out.length = i := by rw [hout]; simp; omega
    rw [← hout] at g3 ⊢
    refine awp_cut (fun _ => false) (fun _ => none) (fun f H' => H' = H ++ ownB 57 16 out :: L ∧ f 6 = Sm.sl l ∧ f 7 = I l.length ∧ f 8 = I i ∧ f 3 = ownS H.length out ∧ f 9 = Bo (decide ((i : Int) < l.length))) (by kernel_rfl) ?_ ?_
    · simp -dsimp [g6, g7, g8, g3]
    clear g g6 g7 g8 g3
    rintro g _ ⟨rfl, g6, g7, g8, g3, g9⟩
    refine awp_cut (fun _ => false) (fun _ => none) (fun f H' => H' = H ++ ownB 57 16 out :: L ∧ f 6 = Sm.sl l ∧ f 7 = I l.length ∧ f 8 = I i ∧ f 3 = ownS H.length out ∧ i < l.length) (by kernel_rfl) ?_ ?_
    · simp -dsimp [g9]
      refine condVW_introD (fun hlt => ?_) (fun hlt => ?_)
      · simp -dsimp [g6, g7, g8, g3]
        omega
      · have : out = l.map Sm.cells := by rw [hout]; exact List.take_of_length_le (by simp; omega)
        simp -dsimp [g3]
        exact ⟨L, by rw [this], by rw [this]⟩
    clear g g6 g7 g8 g3 g9
    rintro g _ ⟨rfl, g6, g7, g8, g3, hlt⟩
    have hgx := sms_get hlt
    have hcx := Sm.count_eq l[i]
    have hlx : l[i]? = some l[i] := List.getElem?_eq_getElem hlt
    have htk : (l.map Sm.cells).take (i + 1) = out ++ [l[i].cells] := by rw [take_succV (by simpa using hlt), List.getElem_map, hout]
    obtain ⟨x, hx⟩ : ∃ x, x = l[i] := ⟨_, rfl⟩
    rw [← hx] at hgx hcx hlx htk
    clear hx hout
    have hxa := exs_len x.args
    have c1 := fun H => cloneS_ok x.names (by omega) H
    have c2 := fun H => cloneExprs_ok _ x.e.args (Nat.lt_succ_self _) (by have := Ex.count_eq x.e; omega) H
    have c3 := fun H => cloneExprs_ok _ x.a.args (Nat.lt_succ_self _) (by have := Ex.count_eq x.a; omega) H
    have c4 := fun H => cloneExprs_ok _ x.args (Nat.lt_succ_self _) (by omega) H
    have c5 := fun H => ih x.body (by omega) (by omega) H
    have c6 := fun H => ih x.els (by omega) (by omega) H
    simp only [Sm.cells_eq] at htk
    refine awp_cutA (fun f H' => RowM 57 16 H ((l.map Sm.cells).take (i + 1)) (f 3) H' ∧ f 6 = Sm.sl l ∧ f 7 = I l.length ∧ f 8 = I i) ?_ ?_
    rotate_left
    · clear g g6 g7 g8 g3
      rintro g H' ⟨ho, g6, g7, g8⟩
      replace ho := Hid.mk ho
      refine awp_all (fun _ => false) (fun _ => none) (by kernel_rfl) ?_
      simp -dsimp [g6, g7, g8]
      exact ⟨i + 1, by omega, ho.out, wrapS (by omega), by omega⟩
    refine awp_block ?_
    rw [htk]
    obtain ⟨bX, hbX⟩ : ∃ bX, bX = Blk.box 57 x.cells := ⟨_, rfl⟩
    simp only [Sm.cells_eq] at hbX
    obtain ⟨V, hV⟩ : ∃ V, V = H ++ ownB 57 16 out :: (L ++ [bX]) := ⟨_, rfl⟩
    obtain ⟨u, hu2⟩ : ∃ u, u = H.length + (L.length + 1) := ⟨_, rfl⟩
    have hVu : V[u]? = some (.box 57 [I x.kind, St x.name, St.sl x.names, I x.e.op, U x.e.word, St x.e.name, Ex.sl x.e.args, I x.a.op, U x.a.word, St x.a.name, Ex.sl x.a.args, Ex.sl x.args, U x.low, U x.high, Sm.sl x.body, Sm.sl x.els]) := by
      rw [hV, hu2, List.getElem?_append_right (by omega), Nat.add_sub_cancel_left, List.getElem?_cons_succ, List.getElem?_append_right (Nat.le_refl _), Nat.sub_self, hbX]; rfl
    have hVs := set_same hVu
    refine awp_cut (fun _ => false) (fun _ => none) (fun f H' => V = H' ∧ f 6 = Sm.sl l ∧ f 7 = I l.length ∧ f 8 = I i ∧ f 3 = ownS H.length out ∧ f 5 = .bp u 0) (by kernel_rfl) ?_ ?_
    · simp -dsimp [g6, g7, g8, g3, hlx, hV, hbX, hu2]
    clear g g6 g7 g8 g3
    rintro g _ ⟨rfl, g6, g7, g8, g3, g5⟩
    refine awp_cut (fun _ => false) (fun _ => none) (fun f H' => V = H' ∧ f 6 = Sm.sl l ∧ f 7 = I l.length ∧ f 8 = I i ∧ f 3 = ownS H.length out ∧ f 5 = .bp u 0) (by kernel_rfl) ?_ ?_
    · simp -dsimp [g6, g7, g8, g3, g5, hVu]
      refine acallsW_det (c1 _) ?_
      simp -dsimp [g6, g7, g8, g3, g5, hVu, hVs]
    clear g g6 g7 g8 g3 g5
    rintro g _ ⟨rfl, g6, g7, g8, g3, g5⟩
    refine awp_cut (fun _ => false) (fun _ => none) (fun f H' => V = H' ∧ f 6 = Sm.sl l ∧ f 7 = I l.length ∧ f 8 = I i ∧ f 3 = ownS H.length out ∧ f 5 = .bp u 0) (by kernel_rfl) ?_ ?_
    · simp -dsimp [g6, g7, g8, g3, g5, hVu]
      refine callDW_intro (c2 _) ?_
      simp -dsimp [g6, g7, g8, g3, g5, hVu]
      refine callDW_intro (c3 _) ?_
      simp -dsimp [g6, g7, g8, g3, g5, hVu]
      refine callDW_intro (c4 _) ?_
      simp -dsimp [g6, g7, g8, g3, g5, hVu, hVs]
    clear g g6 g7 g8 g3 g5
    rintro g _ ⟨rfl, g6, g7, g8, g3, g5⟩
    refine awp_cut (fun _ => false) (fun _ => none) (fun f H' => V = H' ∧ f 6 = Sm.sl l ∧ f 7 = I l.length ∧ f 8 = I i ∧ f 3 = ownS H.length out ∧ f 5 = .bp u 0) (by kernel_rfl) ?_ ?_
    · simp -dsimp [g6, g7, g8, g3, g5, hVu]
      refine callDW_intro (c5 _) ?_
      simp -dsimp [g6, g7, g8, g3, g5, hVu]
      refine callDW_intro (c6 _) ?_
      simp -dsimp [g6, g7, g8, g3, g5, hVu, hVs]
    clear g g6 g7 g8 g3 g5
    rintro g _ ⟨rfl, g6, g7, g8, g3, g5⟩
    refine awp_all (fun d => d == 43) (fun _ => none) (by kernel_rfl) ?_
    simp -dsimp [g6, g7, g8, g3, g5, hVu]
    refine appendVW_own (k := H.length) (es := out) (by rw [hV, hrg]) (by simp; omega) (by simp; omega) ?_
    rw [hV, hrs]
    simp -dsimp [g6, g7, g8, g3]
    exact ⟨_, rfl, rfl⟩
end Go.Proofs
namespace Go.Proofs
open Go.Mu
structure Pg.OkC (p : Pg) : Prop where
  regions : p.regions.length ≤ 2^36
  funcs : p.funcs.length ≤ 2^36
  params : ∀ f ∈ p.funcs, f.params.length ≤ 2^36
  vars : ∀ f ∈ p.funcs, f.vars.length ≤ 2^36
  rets : ∀ f ∈ p.funcs, f.rets.length ≤ 2^36
  body : ∀ f ∈ p.funcs, smsCount f.body ≤ 2^36
mutual
theorem under_mono {n m : Nat} (h : n ≤ m) : ∀ (a : AV), a.under n = true → a.under m = true
  | .v _, _ => rfl
  | .vs _ _, _ => rfl
  | .vx _ _, _ => rfl
  | .vp _, _ => rfl
  | .bp k _, hu => by simp only [AV.under, decide_eq_true_eq] at hu ⊢; omega
  | .rp k _ _ _, hu => by simp only [AV.under, decide_eq_true_eq] at hu ⊢; omega
  | .hs k _ _ _, hu => by simp only [AV.under, decide_eq_true_eq] at hu ⊢; omega
  | .hm k, hu => by simp only [AV.under, decide_eq_true_eq] at hu ⊢; omega
  | .hi k, hu => by simp only [AV.under, decide_eq_true_eq] at hu ⊢; omega
  | .yl k, hu => by simp only [AV.under, decide_eq_true_eq] at hu ⊢; omega
  | .fn _ a b, hu => by simp only [AV.under, Bool.and_eq_true] at hu ⊢; exact ⟨underL_mono h a hu.1, underL_mono h b hu.2⟩
  | .ifc _ x, hu => by simp only [AV.under] at hu ⊢; exact under_mono h x hu
  | .agg a, hu => by simp only [AV.under] at hu ⊢; exact underL_mono h a hu
  | .tup a, hu => by simp only [AV.under] at hu ⊢; exact underL_mono h a hu
  | .junk, _ => rfl
theorem underL_mono {n m : Nat} (h : n ≤ m) : ∀ (l : List AV), underL n l = true → underL m l = true
  | [], _ => rfl
  | a :: l, hu => by simp only [underL, Bool.and_eq_true] at hu ⊢; exact ⟨under_mono h a hu.1, underL_mono h l hu.2⟩
end
theorem blk_under_mono {n m : Nat} (h : n ≤ m) (b : Blk) (hu : b.under n = true) : b.under m = true := by
  cases b with
  | box t cs => exact underL_mono h cs hu
  | row t z rs =>
    simp only [Blk.under, List.all_eq_true] at hu ⊢
    exact fun r hr => underL_mono h r (hu r hr)
  | map ms =>
    simp only [Blk.under, List.all_eq_true] at hu ⊢
    exact fun p hp => under_mono h p.2 (hu p hp)
  | lp st pend n f ps assign body =>
    simp only [Blk.under, List.all_eq_true, List.mem_range] at hu ⊢
    exact fun t ht => under_mono h _ (hu t ht)
  | it km q seen =>
    cases km with
    | none => rfl
    | some k => simp only [Blk.under, decide_eq_true_eq] at hu ⊢; omega
  | _ => rfl
theorem underH_app' {n m : Nat} {A B : List Blk} (h : n ≤ m) (ha : underH n A = true) (hb : ∀ b ∈ B, b.under m = true) : underH m (A ++ B) = true := by
  simp only [underH, List.all_eq_true, List.mem_append] at ha ⊢
  rintro b (hm | hm)
  · exact blk_under_mono h b (ha b hm)
  · exact hb b hm
abbrev fcB (l : List Fc) : Blk := ownB 37 5 (l.map Fc.cells)
abbrev fcS (k : Nat) (l : List Fc) : AV := ownS k (l.map Fc.cells)
theorem cloneP_ok (p : Pg) (hp : p.OkC) (H : List Blk) : ACalls Tryz.prog 54 [.agg p.cells] H (fun e H' => e = .ret (.agg [Rg.sl p.regions, fcS H.length p.funcs]) ∧ H' = H ++ [fcB p.funcs]) := by
  refine acalls_under fun hu _ => acalls_tidy (acalls_spare 1 (acalls_of_awp Tryz.func54 rfl (by kernel_rfl) ?_))
  have hpr := hp.regions
  have hpf := hp.funcs
  obtain ⟨b1, hb1⟩ : ∃ b1, b1 = Blk.box 25 [Rg.sl p.regions, Fc.sl p.funcs] := ⟨_, rfl⟩
  obtain ⟨b2, hb2⟩ : ∃ b2, b2 = Blk.box 25 [nilS, nilS] := ⟨_, rfl⟩
  obtain ⟨M, hM⟩ : ∃ M : List (List AV) → List Blk → List Blk, M = fun out R => H ++ ownB 37 5 out :: b1 :: b2 :: .box 25 [Rg.sl p.regions, ownS H.length out] :: R := ⟨_, rfl⟩
  have hMe : ∀ out R, M out R = H ++ ownB 37 5 out :: b1 :: b2 :: .box 25 [Rg.sl p.regions, ownS H.length out] :: R := fun out R => by rw [hM]
  have hMa : ∀ out R X, M out R ++ X = M out (R ++ X) := fun out R X => by rw [hMe, hMe]; simp
  have hM0 : ∀ out R, (M out R)[H.length]? = some (ownB 37 5 out) := fun out R => by rw [hMe]; simp
  have hM1 : ∀ out R, (M out R)[H.length + 1]? = some (.box 25 [Rg.sl p.regions, Fc.sl p.funcs]) := fun out R => by rw [hMe, ← hb1]; simp
  have hM2 : ∀ out R, (M out R)[H.length + 2]? = some b2 := fun out R => by rw [hMe]; simp
  have hM3 : ∀ out R, (M out R)[H.length + 3]? = some (.box 25 [Rg.sl p.regions, ownS H.length out]) := fun out R => by rw [hMe]; simp
  have hMs : ∀ out R out', ((M out R).set H.length (ownB 37 5 out')).set (H.length + 3) (.box 25 [Rg.sl p.regions, ownS H.length out']) = M out' R := fun out R out' => by rw [hMe, hMe]; simp
  have hMg : ∀ out R X, ((M out R).set H.length X)[H.length + 3]? = some (.box 25 [Rg.sl p.regions, ownS H.length out]) := fun out R X => by rw [List.getElem?_set_ne (by omega)]; exact hM3 _ _
  have hMl : ∀ out R, (M out R).length = H.length + 4 + R.length := fun out R => by rw [hMe]; simp; omega
  refine awp_cut (fun _ => false) (fun _ => none) (fun f H' => H' = H ++ [Blk.pend, b1, b2] ∧ f 1 = .bp (H.length + 1) 0 ∧ f 2 = .bp (H.length + 2) 0) (by kernel_rfl) ?_ ?_
  · rw [hb1, hb2]
    simp -dsimp
  rintro g _ ⟨rfl, g1, g2⟩
  refine awp_cut (fun _ => false) (fun _ => none) (fun f H' => H' = M [] [] ∧ f 1 = .bp (H.length + 1) 0 ∧ f 2 = .bp (H.length + 2) 0 ∧ f 3 = .bp (H.length + 3) 0) (by kernel_rfl) ?_ ?_
  · have cr := fun H => cloneR_ok p.regions (by omega) H
    have hg : (H ++ [Blk.pend, b1, b2])[H.length + 1]? = some (.box 25 [Rg.sl p.regions, Fc.sl p.funcs]) := by rw [← hb1]; simp
    obtain ⟨N, hN⟩ : ∃ N, N = H ++ [Blk.pend, b1, b2] := ⟨_, rfl⟩
    have hNl : N.length = H.length + 3 := by rw [hN]; simp
    have hNM : N ++ [.box 25 [Rg.sl p.regions, nilS]] = M [] [] := by rw [hMe, hN]; simp [ownB]
    rw [← hN] at hg ⊢
    clear hN
    simp -dsimp [g1, g2, hg]
    refine acallsW_det (cr _) ?_
    simp -dsimp [g1, g2, hg, hNl]
    exact hNM
  clear g g1 g2
  rintro g _ ⟨rfl, g1, g2, g3⟩
  refine awp_cutA (fun f H' => (∃ R, H' = M (p.funcs.map Fc.cells) R) ∧ f 2 = .bp (H.length + 2) 0 ∧ f 3 = .bp (H.length + 3) 0) ?_ ?_
  rotate_left
  · clear g g1 g2 g3
    rintro g _ ⟨⟨R, rfl⟩, g2, g3⟩
    refine awp_all (fun _ => false) (fun _ => none) (by kernel_rfl) ?_
    have hMr : ∀ out R X, ((M out R).set (H.length + 2) X)[H.length + 2]? = some X := fun out R X => by
      rw [List.getElem?_set_self (by rw [hMl]; omega)]
    simp -dsimp [g2, g3, hM3, hM2, hb2, hMr]
    have hme : ∀ out X, (M out R).set (H.length + 2) X = (H ++ [ownB 37 5 out]) ++ (b1 :: X :: .box 25 [Rg.sl p.regions, ownS H.length out] :: R) := fun out X => by rw [hMe]; simp
    rw [hme]
    refine tidy_to (by simp) (fun h => underH_app' (n := H.length) (by simp) hu (fun b hb => by
      obtain rfl := List.mem_singleton.1 hb
      exact under_ownB_plain (fcs_frzB p.funcs))) (by
        have := under_ownS (H ++ [ownB 37 5 (p.funcs.map Fc.cells)]).length H.length (p.funcs.map Fc.cells) (by simp)
        simp only [AV.under, underL, this]; rfl) ⟨rfl, rfl⟩
  refine awp_cut (fun _ => false) (fun _ => none) (fun f H' => H' = M [] [] ∧ f 2 = .bp (H.length + 2) 0 ∧ f 3 = .bp (H.length + 3) 0 ∧ f 11 = Fc.sl p.funcs ∧ f 12 = I p.funcs.length ∧ f 13 = I 0) (by kernel_rfl) ?_ ?_
  · simp -dsimp [g1, g2, g3, hM1]
  clear g g1 g2 g3
  rintro g _ ⟨rfl, g2, g3, g11, g12, g13⟩
  refine awp_block ?_
  refine awp_loopI (fun (i : Nat) f H' => (∃ R, H' = M ((p.funcs.map Fc.cells).take i) R) ∧ f 2 = .bp (H.length + 2) 0 ∧ f 3 = .bp (H.length + 3) 0 ∧ f 11 = Fc.sl p.funcs ∧ f 12 = I p.funcs.length ∧ f 13 = I i ∧ i ≤ p.funcs.length) (fun i => p.funcs.length - i) 0
    ⟨⟨[], by simp⟩, g2, g3, g11, g12, g13, by omega⟩ ?_
  clear g g2 g3 g11 g12 g13
  rintro i g _ ⟨⟨R, rfl⟩, g2, g3, g11, g12, g13, hi⟩
  obtain ⟨out, hout⟩ : ∃ out, out = (p.funcs.map Fc.cells).take i := ⟨_, rfl⟩
  have hol : out.length = i := by rw [hout]; simp; omega
  rw [← hout]
  refine awp_cut (fun _ => false) (fun _ => none) (fun f H' => H' = M out R ∧ f 2 = .bp (H.length + 2) 0 ∧ f 3 = .bp (H.length + 3) 0 ∧ f 11 = Fc.sl p.funcs ∧ f 12 = I p.funcs.length ∧ f 13 = I i ∧ f 14 = Bo (decide ((i : Int) < p.funcs.length))) (by kernel_rfl) ?_ ?_
  · simp -dsimp [g2, g3, g11, g12, g13]
  clear g g2 g3 g11 g12 g13
  rintro g _ ⟨rfl, g2, g3, g11, g12, g13, g14⟩
  refine awp_cut (fun _ => false) (fun _ => none) (fun f H' => H' = M out R ∧ f 2 = .bp (H.length + 2) 0 ∧ f 3 = .bp (H.length + 3) 0 ∧ f 11 = Fc.sl p.funcs ∧ f 12 = I p.funcs.length ∧ f 13 = I i ∧ i < p.funcs.length) (by kernel_rfl) ?_ ?_
  · simp -dsimp [g14]
    refine condVW_introD (fun hlt => ?_) (fun hlt => ?_)
    · simp -dsimp [g2, g3, g11, g12, g13]
      omega
    · have : out = p.funcs.map Fc.cells := by rw [hout]; exact List.take_of_length_le (by simp; omega)
      simp -dsimp [g2, g3]
      exact ⟨R, by rw [this]⟩
  clear g g2 g3 g11 g12 g13 g14
  rintro g _ ⟨rfl, g2, g3, g11, g12, g13, hlt⟩
  have hlx : p.funcs[i]? = some p.funcs[i] := List.getElem?_eq_getElem hlt
  have hmx := List.getElem_mem hlt
  have htk : (p.funcs.map Fc.cells).take (i + 1) = out ++ [p.funcs[i].cells] := by rw [take_succV (by simpa using hlt), List.getElem_map, hout]
  obtain ⟨x, hx⟩ : ∃ x, x = p.funcs[i] := ⟨_, rfl⟩
  rw [← hx] at hlx htk hmx
  clear hx hout
  simp only [Fc.cells] at htk
  have c1 := fun H => cloneV_ok x.params (by have := hp.params x hmx; omega) H
  have c2 := fun H => cloneV_ok x.vars (by have := hp.vars x hmx; omega) H
  have c3 := fun H => cloneS_ok x.rets (by have := hp.rets x hmx; omega) H
  have c4 := fun H => cloneStmts_ok _ x.body (Nat.lt_succ_self _) (hp.body x hmx) H
  refine awp_cutA (fun f H' => (∃ R, H' = M ((p.funcs.map Fc.cells).take (i + 1)) R) ∧ f 2 = .bp (H.length + 2) 0 ∧ f 3 = .bp (H.length + 3) 0 ∧ f 11 = Fc.sl p.funcs ∧ f 12 = I p.funcs.length ∧ f 13 = I i) ?_ ?_
  rotate_left
  · clear g g2 g3 g11 g12 g13
    rintro g _ ⟨⟨R, rfl⟩, g2, g3, g11, g12, g13⟩
    refine awp_all (fun _ => false) (fun _ => none) (by kernel_rfl) ?_
    simp -dsimp [g2, g3, g11, g12, g13]
    exact ⟨i + 1, by omega, ⟨R, rfl⟩, wrapS (by omega), by omega⟩
  refine awp_block ?_
  rw [htk]
  obtain ⟨u, hu2⟩ : ∃ u, u = (M out R).length := ⟨_, rfl⟩
  obtain ⟨bF, hbF⟩ : ∃ bF, bF = Blk.box 37 [St x.name, Vr.sl x.params, Vr.sl x.vars, St.sl x.rets, Sm.sl x.body] := ⟨_, rfl⟩
  obtain ⟨R', hR'⟩ : ∃ R', R' = R ++ [bF] := ⟨_, rfl⟩
  have hVu : (M out R')[u]? = some (.box 37 [St x.name, Vr.sl x.params, Vr.sl x.vars, St.sl x.rets, Sm.sl x.body]) := by
    rw [hR', ← hMa, hu2, List.getElem?_append_right (Nat.le_refl _), Nat.sub_self, ← hbF]; rfl
  have hVs := set_same hVu
  refine awp_cut (fun _ => false) (fun _ => none) (fun f H' => H' = M out R' ∧ f 2 = .bp (H.length + 2) 0 ∧ f 3 = .bp (H.length + 3) 0 ∧ f 11 = Fc.sl p.funcs ∧ f 12 = I p.funcs.length ∧ f 13 = I i ∧ f 5 = .bp u 0) (by kernel_rfl) ?_ ?_
  · rw [hR', ← hMa, hbF, hu2]
    simp -dsimp [g2, g3, g11, g12, g13, hlx]
  clear g g2 g3 g11 g12 g13
  rintro g _ ⟨rfl, g2, g3, g11, g12, g13, g5⟩
  refine awp_cut (fun _ => false) (fun _ => none) (fun f H' => H' = M out R' ∧ f 2 = .bp (H.length + 2) 0 ∧ f 3 = .bp (H.length + 3) 0 ∧ f 11 = Fc.sl p.funcs ∧ f 12 = I p.funcs.length ∧ f 13 = I i ∧ f 5 = .bp u 0) (by kernel_rfl) ?_ ?_
  · simp -dsimp [g2, g3, g11, g12, g13, g5, hVu]
    refine callDW_intro (c1 _) ?_
    simp -dsimp [g2, g3, g11, g12, g13, g5, hVu]
    refine callDW_intro (c2 _) ?_
    simp -dsimp [g2, g3, g11, g12, g13, g5, hVu]
    refine callDW_intro (c3 _) ?_
    simp -dsimp [g2, g3, g11, g12, g13, g5, hVu]
    refine callDW_intro (c4 _) ?_
    simp -dsimp [g2, g3, g11, g12, g13, g5, hVu, hVs]
  clear g g2 g3 g11 g12 g13 g5
  rintro g _ ⟨rfl, g2, g3, g11, g12, g13, g5⟩
  refine awp_all (fun d => d == 37) (fun _ => none) (by kernel_rfl) ?_
  simp -dsimp [g2, g3, g11, g12, g13, g5, hVu, hM3]
  refine appendVW_own (k := H.length) (es := out) (by rw [hM0]) (by simp; omega) (by simp; omega) ?_
  simp -dsimp [g2, g3, g11, g12, g13, hMg, hMs]
  exact ⟨R', rfl⟩
end Go.Proofs
