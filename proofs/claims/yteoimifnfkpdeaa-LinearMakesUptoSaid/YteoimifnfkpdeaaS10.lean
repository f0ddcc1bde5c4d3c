/- Copies of lists; and linear code made of flat code. -/
import Derived.Test.YteoimifnfkpdeaaS9
import Derived.Test.YteoimifnfkpdeaaFwP
set_option linter.unusedVariables false
set_option linter.unusedSimpArgs false
set_option maxHeartbeats 4000000
set_option maxRecDepth 100000
namespace Go.Proofs
open Go.Mu
theorem clone_ok (l : List Int) (hl : l.length ≤ 2^40) (H : List Blk) : ACalls Try.prog 39 [Int.sl l] H (fun e H' => e = .ret (Int.sl l) ∧ H' = H) := by
  refine acalls_under fun hu _ => acalls_tidy (acalls_weakE (acalls_of_vc (hn := fun d => d == 5 || d == 7) (od := fun _ => none) Try.func39 rfl (by kernel_rfl) ?_))
  simp -dsimp
  have own : ∀ (R : AE → List Blk → Prop), R = (Tidy H fun e H' => e = AE.ret (Int.sl l) ∧ H' = H) → WeakE R (.ret (.hs H.length 0 l.length l.length)) (H ++ [.row 3 1 (l.map fun n => [I n])]) := by
    intro R hR
    refine tidy_weak (.refl _) ?_
    rw [hR]
    refine tidy_give hu 0 1 3 (l.map fun n => [I n]) rfl (by simp [AV.frzB]) ?_
    simp only [AV.frz, List.length_map, Nat.add_zero, and_self, if_true, List.drop_zero]
    have : List.take l.length (l.map fun n => [I n]) = l.map fun n => [I n] := List.take_of_length_le (by simp)
    rw [this]
    exact tidy_same rfl ⟨rfl, rfl⟩
  refine slNilW_vs (fun hne => ?_) (fun he => ⟨?_, ?_⟩)
  · simp -dsimp
    refine appendVW_hs (es := []) (by simp) rfl rfl (by simp; omega) (by simp; omega) ?_
    simp -dsimp
    exact own _ rfl
  · have : l = [] := by simpa using he
    subst this
    simp -dsimp
    refine tidy_weak (.nil 1) ?_
    exact tidy_now rfl ⟨rfl, rfl⟩
  · simp -dsimp
    refine appendVW_hs (es := []) (by simp) rfl rfl (by simp; omega) (by simp; omega) ?_
    simp -dsimp
    exact own _ rfl
@[simp] theorem nil20 : binE Try.prog .eql 20 (.v .nilIface) (.v .nilIface) = some (.v (.bool true)) := by kernel_rfl
@[simp] theorem ifc20 (t : Nat) (x : AV) : binE Try.prog .eql 20 (.ifc t x) (.v .nilIface) = some (.v (.bool false)) := by kernel_rfl
/-- What the recovering function does: nothing, or it tells that there are too many lines. -/
theorem rec_none (t2 t3 : Nat) (H : List Blk) : RecSem Try.prog ⟨36, [.bp t2 0, .bp t3 0]⟩ (.v .nilIface) H (fun H' => H' = H) := by
  refine recSem_of_vc (hn := fun _ => false) (od := fun _ => none) Try.func36 rfl (by kernel_rfl) ?_
  show vcC _ _ _ _ _ (recQ _) _ _ _
  simp -dsimp
abbrev nilS : AV := .v (.slice none 0 0)
theorem rec_some (t2 t3 : Nat) (H : List Blk) (h2 : H[t2]? = some (.box 30 [I 0, nilS, nilS, I 0, nilS])) (h3 : H[t3]? = some (.box 31 [I 0])) (h23 : t2 ≠ t3) : RecSem Try.prog ⟨36, [.bp t2 0, .bp t3 0]⟩ refV H
    (fun H' => ∃ L, H' = set2 H t2 (.box 30 [I 0, nilS, nilS, I 0, nilS]) t3 (.box 31 [I 13]) ++ L) := by
  refine recSem_of_vc (hn := fun _ => false) (od := fun _ => none) Try.func36 rfl (by kernel_rfl) ?_
  show vcC _ _ _ _ _ (recQ _) _ _ _
  have l2 := lt_of_get h2
  have l3 := lt_of_get h3
  have hH : H = set2 H t2 (.box 30 [I 0, nilS, nilS, I 0, nilS]) t3 (.box 31 [I 0]) ++ [] := by rw [set2_same h2 h3]; simp
  rw [hH]
  clear h2 h3
  have g1 := fun X Y L => m2_getA l2 h23 X Y L
  have g2 := fun X Y L => m2_getB (a := t2) l3 X Y L
  have g3 := fun X Y L i => m2_getN (H := H) (a := t2) (b := t3) X Y L i
  have g4 := fun X Y L => m2_getE (H := H) (a := t2) (b := t3) X Y L
  have s1 := fun X Y Z L => m2_setA l2 h23 X Y Z L
  have s2 := fun X Y Z L => m2_setB (a := t2) l3 X Y Z L
  have s4 := fun X Y Z L => m2_setE (H := H) (a := t2) (b := t3) X Y Z L
  clear hH
  simp -dsimp [assertV, g1, g2, g3, g4, s1, s2, s4]
  exact ⟨[.box 93 []], by rw [set2_set2 l2 l3 h23]⟩
/-- What making linear code of flat code comes to. -/
def MakeR (f : Flat) (H : List Blk) (e : AE) (H' : List Blk) : Prop :=
  ∃ (l : Linear) (n : Int), e = .ret (.tup [.agg l.cells, I n]) ∧ H' = H ∧ (f.ok = false → n = 2 ∧ l = ⟨0, [], [], 0, []⟩) ∧
    (f.ok = true → ((nodesLines f.code 0).1.length < 65536 → n = 0 ∧ l = ⟨f.vars, f.params, f.rets, f.frame, (nodesLines f.code 0).1 ++ [lineOf 5 0 0]⟩) ∧ (65536 ≤ (nodesLines f.code 0).1.length → n = 13))
theorem make_ok (f : Flat) (hp : f.params.length ≤ 2^40) (hr : f.rets.length ≤ 2^40) (hc : nodesCount f.code ≤ 2^36) (H : List Blk) : ACalls Try.prog 11 [.agg f.cells] H (MakeR f H) := by
  refine acalls_under fun hu _ => acalls_tidy (acalls_weakE (acalls_spare 1 (acalls_of_vcD (hn := fun _ => false) (od := fun _ => none) Try.func11 rfl (by kernel_rfl) ?_)))
  have hmay := fun H => may_ok f hp hr (by omega) H
  simp only [Flat.cells] at hmay
  simp -dsimp
  refine acallsW_det (hmay _) ?_
  simp -dsimp
  have hweak : Weak (.tup [.agg [I 0, nilS, nilS, I 0, nilS], I 2]) (.tup [.agg (Linear.mk 0 [] [] 0 []).cells, I 2]) :=
    .tupL (.cons (.aggL (.cons (.refl _) (.cons (.nil 1) (.cons (.nil 1) (.cons (.refl _) (.cons (.nil 11) .nil)))))) (.cons (.refl _) .nil))
  have hweak13 : Weak (.tup [.agg [I 0, nilS, nilS, I 0, nilS], I 13]) (.tup [.agg (Linear.mk 0 [] [] 0 []).cells, I 13]) :=
    .tupL (.cons (.aggL (.cons (.refl _) (.cons (.nil 1) (.cons (.nil 1) (.cons (.refl _) (.cons (.nil 11) .nil)))))) (.cons (.refl _) .nil))
  refine condVW_introB (fun hok => ?_) (fun hok => ?_)
  · simp -dsimp
    exact tidy_weak hweak (tidy_same rfl ⟨_, 2, rfl, rfl, fun _ => ⟨rfl, rfl⟩, fun h => absurd h (by simp [hok])⟩)
  · have hnok : nodesOk f.vars 1 f.code = true := by simp only [Flat.ok, Bool.and_eq_true] at hok; exact hok.2
    have hcount : nodesCount f.code ≤ 16384 := by simp only [Flat.ok, Bool.and_eq_true, decide_eq_true_eq] at hok; exact hok.1.2
    obtain ⟨N, lb, hN⟩ : ∃ N lb, nodesLines f.code 0 = (N, lb) := ⟨_, _, rfl⟩
    simp -dsimp
    obtain ⟨M, hM⟩ : ∃ M, M = H ++ [Blk.pend, Blk.box 25 [I f.vars, Int.sl f.params, Int.sl f.rets, I f.frame, Node.sl f.code], .box 30 [I 0, nilS, nilS, I 0, nilS], .box 31 [I 0], .box 96 [nilS, I 0]] := ⟨_, rfl⟩
    have hMl : M.length = H.length + 5 := by rw [hM]; simp
    have hM0 : M = set2 M (H.length + 4) (mkBox 96 H.length [] 0) H.length (mkRow []) ++ [] := by
      rw [List.append_nil, set2_same]
      · rw [hM]; simp [mkBox]
      · rw [hM]; simp [mkRow]
    have fold : ∀ X Y L, set2 M (H.length + 4) X H.length Y ++ L = H ++ ([Y, Blk.box 25 [I f.vars, Int.sl f.params, Int.sl f.rets, I f.frame, Node.sl f.code], .box 30 [I 0, nilS, nilS, I 0, nilS], .box 31 [I 0], X] ++ L) := by
      intro X Y L; rw [hM]; simp [set2]
    have fold0 : ∀ X Y, set2 M (H.length + 4) X H.length Y = H ++ [Y, Blk.box 25 [I f.vars, Int.sl f.params, Int.sl f.rets, I f.frame, Node.sl f.code], .box 30 [I 0, nilS, nilS, I 0, nilS], .box 31 [I 0], X] := by
      intro X Y; have := fold X Y []; simpa using this
    have pan : ∀ (L : List Blk) (h65 : 65536 ≤ N.length), WeakE (Tidy H (MakeR f H)) (.ret (.tup [.agg [I 0, nilS, nilS, I 0, nilS], I 13])) (H ++ L) := fun L h65 =>
      tidy_weak hweak13 (tidy_same rfl ⟨_, 13, rfl, rfl, fun h => absurd h (by simp [hok]), fun _ => by rw [hN]; exact ⟨fun h => by simp only at h; omega, fun _ => rfl⟩⟩)
    rw [← hM, hM0]
    refine nodes_call f.vars _ f.code 1 (Nat.le_refl _) (by omega) hnok (by omega) (by omega) (by omega) (by simp) (by omega) (fun h65 => ?_) (fun h65 ls' lab' => ?_)
    rotate_left
    · rw [hN] at h65
      simp -dsimp [fold0]
      refine recW_of (rec_some (H.length + 2) (H.length + 3) _ (by simp) (by simp) (by omega)) ?_
      rintro H' ⟨L, rfl⟩
      simp -dsimp [set2]
      exact pan _ (by simp at h65; omega)
    rw [hN] at h65 ⊢
    simp only [List.nil_append, List.length_nil, Nat.zero_add] at h65 ⊢
    simp -dsimp
    have e : set2 M (H.length + 4) (mkBox 96 H.length N lb) H.length (mkRow N) = set2 M (H.length + 4) (mkBox 96 H.length N lb) H.length (mkRow N) ++ [] := by simp
    rw [e]
    refine line_call (x := lineOf 5 0 0) (H := M) (a := H.length + 4) (k := H.length) (by omega) (by omega) (by omega) (by omega) (fun hc => ?_) (fun hc => ?_)
    rotate_left
    · simp -dsimp [fold0]
      refine recW_of (rec_some (H.length + 2) (H.length + 3) _ (by simp) (by simp) (by omega)) ?_
      rintro H' ⟨L, rfl⟩
      simp -dsimp [set2]
      exact pan _ (by omega)
    have hcl1 := clone_ok f.params hp
    have hcl2 := clone_ok f.rets hr
    rw [fold]
    simp -dsimp [mkBox, mkRow]
    refine callDW_intro (hcl1 _) ?_
    simp -dsimp
    refine callDW_intro (hcl2 _) ?_
    simp -dsimp
    refine recW_of (rec_none _ _ _) ?_
    rintro H' rfl
    simp -dsimp
    obtain ⟨es, hes⟩ : ∃ es, es = (N ++ [lineOf 5 0 0]).map Line.cells := ⟨_, rfl⟩
    have hes2 : List.map Line.cells N ++ [[I 5, I 0, I 0, I 0, I 0, I 0, I 0, U 0, Bo false, I 0, I 0]] = es := by rw [hes]; simp
    have hne : es ≠ [] := by rw [hes]; simp
    have hz : es.flatten.all AV.frzB = true := by
      rw [hes, List.all_eq_true]
      intro c hc
      obtain ⟨e, he, hce⟩ := List.mem_flatten.1 hc
      obtain ⟨x, _, rfl⟩ := List.mem_map.1 he
      simp at hce
      rcases hce with rfl | rfl | rfl | rfl | rfl | rfl | rfl | rfl | rfl | rfl | rfl <;> rfl
    rw [hes2]
    refine tidy_weak (.refl _) ?_
    rw [ownB, if_neg hne]
    have hfz : (AV.tup [.agg [I f.vars, Int.sl f.params, Int.sl f.rets, I f.frame, ownS H.length es], I 0]).frz H.length 11 es = .tup [.agg [I f.vars, Int.sl f.params, Int.sl f.rets, I f.frame, .vs 11 es], I 0] := by
      simp [AV.frz, frzL, frz_own _ _ _ hne]
    refine tidy_give1 hu 11 45 es hz ?_ ?_
    · rw [hfz]; rfl
    · rw [hfz]
      refine ⟨⟨f.vars, f.params, f.rets, f.frame, N ++ [lineOf 5 0 0]⟩, 0, by rw [hes]; rfl, rfl, fun h => absurd h (by simp [hok]), fun _ => ?_⟩
      rw [hN]
      exact ⟨fun _ => ⟨rfl, rfl⟩, fun h => by simp only at h; omega⟩
end Go.Proofs
