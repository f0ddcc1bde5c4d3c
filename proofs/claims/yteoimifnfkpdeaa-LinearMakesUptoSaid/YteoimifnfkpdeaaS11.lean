/- Linear code made of flat code, by the document; which are the same. -/
import Derived.Test.YteoimifnfkpdeaaS10
set_option linter.unusedVariables false
set_option linter.unusedSimpArgs false
set_option maxHeartbeats 4000000
set_option maxRecDepth 100000
namespace Go.Proofs
open Go.Mu
def RMakeR (f : Flat) (H : List Blk) (e : AE) (H' : List Blk) : Prop :=
  e = .ret (.tup [.agg (Linear.mk f.vars f.params f.rets f.frame ((nodesLines f.code 0).1 ++ [lineOf 5 0 0])).cells, Bo (decide ((nodesLines f.code 0).1.length < 65536))]) ∧ H' = H
theorem end_row (N : List Line) : ∃ es, es = (N ++ [lineOf 5 0 0]).map Line.cells ∧ List.map Line.cells N ++ [[I 5, I 0, I 0, I 0, I 0, I 0, I 0, U 0, Bo false, I 0, I 0]] = es ∧ es ≠ [] ∧ es.flatten.all AV.frzB = true := by
  refine ⟨_, rfl, by simp, by simp, ?_⟩
  rw [List.all_eq_true]
  intro c hc
  obtain ⟨e, he, hce⟩ := List.mem_flatten.1 hc
  obtain ⟨x, _, rfl⟩ := List.mem_map.1 he
  simp at hce
  rcases hce with rfl | rfl | rfl | rfl | rfl | rfl | rfl | rfl | rfl | rfl | rfl <;> rfl
theorem rmake_ok (f : Flat) (hc : nodesCount f.code ≤ 2^36) (H : List Blk) : ACalls Try.prog 14 [.agg f.cells] H (RMakeR f H) := by
  refine acalls_under fun hu _ => acalls_tidy (acalls_spare 1 (acalls_of_vc (hn := fun d => d == 10 || d == 18) (od := fun i => if i = 4 then some [(0, []), (1, []), (2, []), (3, []), (4, []), (5, []), (6, []), (7, []), (8, []), (9, []), (10, []), (11, []), (12, []), (13, []), (14, []), (15, []), (16, []), (17, []), (18, []), (19, [13, 14, 15, 16, 17, 18]), (20, [])] else none) Try.func14 rfl (by kernel_rfl) ?_))
  simp -dsimp
  obtain ⟨M, hM⟩ : ∃ M, M = H ++ [Blk.pend, Blk.box 25 [I f.vars, Int.sl f.params, Int.sl f.rets, I f.frame, Node.sl f.code], .box 30 [I 0, nilS, nilS, I 0, nilS], .box 105 [nilS, I 0]] := ⟨_, rfl⟩
  have hMl : M.length = H.length + 4 := by rw [hM]; simp
  have hM0 : M = set2 M (H.length + 3) (rBox H.length [] 0) H.length (ownB 45 11 []) ++ [] := by
    rw [List.append_nil, set2_same]
    · rw [hM]; simp
    · rw [hM]; simp
  have fold : ∀ X Y L, set2 M (H.length + 3) X H.length Y ++ L = H ++ ([Y, Blk.box 25 [I f.vars, Int.sl f.params, Int.sl f.rets, I f.frame, Node.sl f.code], .box 30 [I 0, nilS, nilS, I 0, nilS], X] ++ L) := by
    intro X Y L; rw [hM]; simp [set2]
  have hle := lines_le _ f.code (Nat.le_refl _) 0
  rw [← hM, hM0]
  refine rnodes_call _ f.code (Nat.le_refl _) hc (ls := []) (lab := 0) (by omega) (by omega) (by omega) rfl rfl (by simp; omega) (by omega) ?_
  rw [fold]
  obtain ⟨N, lb, hN⟩ : ∃ N lb, nodesLines f.code 0 = (N, lb) := ⟨_, _, rfl⟩
  rw [hN] at hle ⊢
  simp only at hle
  simp only [List.nil_append]
  simp -dsimp
  refine appendVW_own (by simp) (by simp; omega) (by simp; omega) ?_
  obtain ⟨es, hes, hes2, hne, hz⟩ := end_row N
  have hesl : es.length = N.length + 1 := by rw [hes]; simp
  have hl1 : ∀ L, lenV (H ++ ownB 45 11 es :: L) 1 (ownS H.length es) = some (es.length : Int) := fun L => lenV_ownS (t := 45) (sz := 11) (by simp)
  simp -dsimp [hes2, hl1, hesl]
  rw [ownB, if_neg hne]
  have hfz : (AV.tup [.agg [I f.vars, Int.sl f.params, Int.sl f.rets, I f.frame, ownS H.length es], Bo (decide ((N.length : Int) + 1 ≤ 65536))]).frz H.length 11 es = .tup [.agg [I f.vars, Int.sl f.params, Int.sl f.rets, I f.frame, .vs 11 es], Bo (decide ((N.length : Int) + 1 ≤ 65536))] := by
    simp [AV.frz, frzL, frz_own _ _ _ hne]
  have hdec : decide (N.length < 65536) = decide ((N.length : Int) + 1 ≤ 65536) := by rw [Bool.eq_iff_iff]; simp; omega
  refine tidy_give1 hu 11 45 es hz ?_ ?_
  · rw [hfz]; rfl
  · rw [hfz]
    refine ⟨?_, rfl⟩
    rw [hN, hdec, hes]; rfl
theorem line_nq (x y : Line) : binE Try.prog .neq 45 (.agg x.cells) (.agg y.cells) = some (Bo (!decide (x = y))) := by
  simp only [Line.cells, I, U, Bo]
  rw [Try.nq45]
  congr 3
  congr 1
  rw [Bool.eq_iff_iff]
  simp [Line.ext_iff, Ins.ext_iff]
theorem take_next {α : Type} {a b : List α} {i : Nat} (ha : i < a.length) (hb : i < b.length) (h : a.take i = b.take i) (he : a[i] = b[i]) : a.take (i + 1) = b.take (i + 1) := by
  rw [List.take_succ_eq_append_getElem ha, List.take_succ_eq_append_getElem hb, h, he]
theorem same_ok (a b : Linear) (h1 : a.params.length ≤ 2^40) (h2 : a.rets.length ≤ 2^40) (h3 : a.code.length ≤ 2^40) (H : List Blk) : ACalls Try.prog 13 [.agg a.cells, .agg b.cells] H (fun e H' => e = .ret (Bo (decide (a = b))) ∧ H' = H) := by
  refine acalls_tidy (acalls_of_vc (hn := fun d => false) (od := fun i => none) Try.func13 rfl (by kernel_rfl) ?_)
  have leaf : ∀ (L : List Blk) (c : Bool), c = decide (a = b) → Tidy H (fun e H' => e = AE.ret (Bo (decide (a = b))) ∧ H' = H) (AE.ret (AV.v (Value.bool c))) (H ++ L) := fun L c hb => tidy_same rfl ⟨by rw [hb], rfl⟩
  replace leaf := Hid.mk leaf
  have hs1 := fun H => sameInts_ok a.params b.params H h1
  have hs2 := fun H => sameInts_ok a.rets b.rets H h2
  have hnq := fun (x y : Line) => line_nq x y
  simp only [Line.cells] at hnq
  simp -dsimp
  repeat' ((with_reducible first | refine And.intro ?_ ?_ | refine guardVW_introTD (fun _ => ?_) (fun _ => ?_) | refine guardVW_introFD (fun _ => ?_) (fun _ => ?_) | refine condVW_introD (fun _ => ?_) (fun _ => ?_) | refine guardVW_introTE (fun _ => ?_) (fun _ _ _ => ?_) | refine guardVW_introFE (fun _ => ?_) (fun _ _ _ => ?_) | refine condVW_introE (fun _ => ?_) (fun _ _ _ => ?_) | refine guardVW_introTNE (fun _ _ _ => ?_) (fun _ => ?_) | refine guardVW_introFNE (fun _ _ _ => ?_) (fun _ => ?_) | refine condVW_introNE (fun _ _ _ => ?_) (fun _ => ?_) | refine guardVW_introTB (fun _ => ?_) (fun _ => ?_) | refine guardVW_introFB (fun _ => ?_) (fun _ => ?_) | refine condVW_introB (fun _ => ?_) (fun _ => ?_) | refine guardVW_introT (fun _ => ?_) (fun _ => ?_) | refine guardVW_introF (fun _ => ?_) (fun _ => ?_) | refine condVW_intro (fun _ => ?_) (fun _ => ?_) | refine acallsW_det (hs1 _) ?_ | refine callDW_intro (hs1 _) ?_ | refine acallsW_det (hs2 _) ?_ | refine callDW_intro (hs2 _) ?_) <;> simp -dsimp [*])
  case refine_2.refine_2.refine_2.refine_2.refine_2 e1 e2 e3 e4 e5 =>
    simp at e3 e4
    have e5' : a.code.length = b.code.length := by omega
    refine loop_rule (hn := fun _ => false) (od := fun _ => none) (fun (i : Nat) f H' => H' = H ++ [Blk.box 30 [I b.vars, Int.sl a.params, Int.sl a.rets, I b.frame, Line.sl a.code], Blk.box 30 [I b.vars, Int.sl b.params, Int.sl b.rets, I b.frame, Line.sl b.code]] ∧ f 2 = .bp H.length 0 ∧ f 3 = .bp (H.length + 1) 0 ∧ f 5 = I i ∧ i ≤ a.code.length ∧ a.code.take i = b.code.take i) (fun i => a.code.length - i) (by kernel_rfl) 0 (by simp) ?_
    rintro i f H' ⟨rfl, f2, f3, f5, hi, hok⟩
    simp -dsimp [f2, f3, f5]
    refine condVW_introD (fun hlt => ?_) (fun hlt => ?_)
    · have hlt' : i < b.code.length := by omega
      have hab : a = b → a.code[i] = b.code[i] := by rintro rfl; rfl
      simp -dsimp [f2, f3, f5, List.getElem?_eq_getElem, hlt, hlt', hnq]
      refine condVW_intro (fun hne => ?_) (fun heq => ?_)
      · simp -dsimp
        refine leaf.out _ _ ?_
        simp only [Bool.not_eq_true', decide_eq_false_iff_not] at hne
        symm; rw [decide_eq_false_iff_not]; exact fun h => hne (hab h)
      · simp only [Bool.not_eq_false', decide_eq_true_eq] at heq
        simp -dsimp [f2, f3, f5]
        exact ⟨i + 1, by omega, wrapS (by omega), by omega, take_next hlt hlt' hok heq⟩
    · simp -dsimp [f2, f3, f5]
      rw [List.take_of_length_le (by omega), List.take_of_length_le (by omega)] at hok
      refine leaf.out _ _ ?_
      cases a; cases b
      simp_all
  all_goals refine leaf.out _ _ ?_
  all_goals (symm; rw [decide_eq_false_iff_not]; rintro rfl; simp_all)
end Go.Proofs
