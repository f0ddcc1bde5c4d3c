/- The law about linear code made of flat code: what its function asks. -/
import Derived.Test.YteoimifnfkpdeaaS13
set_option linter.unusedVariables false
set_option linter.unusedSimpArgs false
set_option maxHeartbeats 4000000
set_option maxRecDepth 100000
namespace Go.Proofs
open Go.Mu
def Flat.few (f : Flat) : Bool := decide (nodesDeep f.code ≤ 70) && decide (nodesCount f.code ≤ 1000) && decide (f.params.length ≤ 100) && decide (f.rets.length ≤ 100)
theorem few_ok (f : Flat) (hc : nodesCount f.code ≤ 2^40) (H : List Blk) : ACalls Try.prog 9 [.agg f.cells] H (fun e H' => e = .ret (Bo f.few) ∧ H' = H) := by
  refine acalls_tidy (acalls_of_vc (hn := fun _ => false) (od := fun _ => none) Try.func9 rfl (by kernel_rfl) ?_)
  have h1 := fun H => count_ok _ f.code (Nat.le_refl _) hc H
  have h2 := fun H => deep_ok _ f.code (Nat.le_refl _) hc H
  simp -dsimp
  repeat' ((with_reducible first | refine And.intro ?_ ?_ | refine guardVW_introTD (fun _ => ?_) (fun _ => ?_) | refine guardVW_introFD (fun _ => ?_) (fun _ => ?_) | refine condVW_introD (fun _ => ?_) (fun _ => ?_) | refine guardVW_introTE (fun _ => ?_) (fun _ _ _ => ?_) | refine guardVW_introFE (fun _ => ?_) (fun _ _ _ => ?_) | refine condVW_introE (fun _ => ?_) (fun _ _ _ => ?_) | refine guardVW_introTNE (fun _ _ _ => ?_) (fun _ => ?_) | refine guardVW_introFNE (fun _ _ _ => ?_) (fun _ => ?_) | refine condVW_introNE (fun _ _ _ => ?_) (fun _ => ?_) | refine guardVW_introTB (fun _ => ?_) (fun _ => ?_) | refine guardVW_introFB (fun _ => ?_) (fun _ => ?_) | refine condVW_introB (fun _ => ?_) (fun _ => ?_) | refine guardVW_introT (fun _ => ?_) (fun _ => ?_) | refine guardVW_introF (fun _ => ?_) (fun _ => ?_) | refine condVW_intro (fun _ => ?_) (fun _ => ?_) | refine acallsW_det (h1 _) ?_ | refine callDW_intro (h1 _) ?_ | refine acallsW_det (h2 _) ?_ | refine callDW_intro (h2 _) ?_) <;> simp -dsimp [*])
  all_goals refine tidy_same rfl ⟨?_, rfl⟩
  all_goals (congr 3; rw [Bool.eq_iff_iff]; simp [Flat.few]; omega)
abbrev insOf (kind op d a : Int) : Ins := ⟨kind, op, d, a, 0, 0, 0, false⟩
def known1 : Flat := ⟨3, [], [], 0, [.mk 2 zeroIns 0 [] [.mk 1 (insOf 2 0 1 2) 0 [] [] []] []]⟩
def known2 : Flat := ⟨1, [], [], 0, [.mk 3 zeroIns 0 [] [] []]⟩
def known1L : Linear := ⟨3, [], [], 0, [lineOf 4 0 0, ⟨1, insOf 2 0 1 2, 0, 0⟩, lineOf 3 0 1, lineOf 2 0 0, lineOf 2 0 1, lineOf 5 0 0]⟩
def known2L : Linear := ⟨1, [], [], 0, [lineOf 2 0 0, lineOf 4 0 1, lineOf 3 0 0, lineOf 2 0 1, lineOf 5 0 0]⟩
theorem known1_call (H : List Blk) : ACalls Try.prog 11 [.agg [I 3, nilS, nilS, I 0, .vs 13 [[I 2, I 0, I 0, I 0, I 0, I 0, I 0, U 0, Bo false, I 0, nilS, .vs 13 [[I 1, I 2, I 0, I 1, I 2, I 0, I 0, U 0, Bo false, I 0, nilS, nilS, nilS]], nilS]]]] H
    (fun e H' => e = .ret (.tup [.agg known1L.cells, I 0]) ∧ H' = H) := by
  refine acalls_weak (args' := [.agg known1.cells]) ?_ ?_
  · simp only [known1, Flat.cells, Node.sl, Int.sl, List.map_cons, List.map_nil, Node.cells_eq, Node.kind, Node.ins, Node.cond, Node.ahead, Node.body, Node.els, zeroIns, insOf]
    repeat first | exact Weak.refl _ | exact Weak.nil _ | exact WeakL.nil | exact WeakR.nil | apply Weak.aggL | apply Weak.vsR | apply WeakL.cons | apply WeakR.cons
  · have hok : known1.ok = true := by decide
    have hl : nodesLines known1.code 0 = ([lineOf 4 0 0, ⟨1, insOf 2 0 1 2, 0, 0⟩, lineOf 3 0 1, lineOf 2 0 0, lineOf 2 0 1], 2) := by decide
    refine (make_ok known1 (by decide) (by decide) (by decide) H).mono fun e H' => ?_
    rintro ⟨l, n, rfl, rfl, -, h⟩
    have h := (h hok).1 (by rw [hl]; decide)
    rw [hl] at h
    obtain ⟨rfl, rfl⟩ := h
    exact ⟨rfl, rfl⟩
theorem known2_call (H : List Blk) : ACalls Try.prog 11 [.agg [I 1, nilS, nilS, I 0, .vs 13 [[I 3, I 0, I 0, I 0, I 0, I 0, I 0, U 0, Bo false, I 0, nilS, nilS, nilS]]]] H
    (fun e H' => e = .ret (.tup [.agg known2L.cells, I 0]) ∧ H' = H) := by
  refine acalls_weak (args' := [.agg known2.cells]) ?_ ?_
  · simp only [known2, Flat.cells, Node.sl, Int.sl, List.map_cons, List.map_nil, Node.cells_eq, Node.kind, Node.ins, Node.cond, Node.ahead, Node.body, Node.els, zeroIns, insOf]
    repeat first | exact Weak.refl _ | exact Weak.nil _ | exact WeakL.nil | exact WeakR.nil | apply Weak.aggL | apply Weak.vsR | apply WeakL.cons | apply WeakR.cons
  · have hok : known2.ok = true := by decide
    have hl : nodesLines known2.code 0 = ([lineOf 2 0 0, lineOf 4 0 1, lineOf 3 0 0, lineOf 2 0 1], 2) := by decide
    refine (make_ok known2 (by decide) (by decide) (by decide) H).mono fun e H' => ?_
    rintro ⟨l, n, rfl, rfl, -, h⟩
    have h := (h hok).1 (by rw [hl]; decide)
    rw [hl] at h
    obtain ⟨rfl, rfl⟩ := h
    exact ⟨rfl, rfl⟩
theorem same1 (H : List Blk) : ACalls Try.prog 13 [.agg known1L.cells, .agg [I 3, nilS, nilS, I 0, .vs 11 (known1L.code.map Line.cells)]] H (fun e H' => e = .ret (Bo true) ∧ H' = H) := by
  refine acalls_weak (args' := [.agg known1L.cells, .agg known1L.cells]) ?_ ((same_ok known1L known1L (by decide) (by decide) (by decide) H).mono fun e H' h => by simpa using h)
  simp only [known1L, Linear.cells, Int.sl, Line.sl, List.map_cons, List.map_nil, Line.cells]
  repeat first | exact Weak.refl _ | exact Weak.nil _ | exact WeakL.nil | exact WeakR.nil | apply Weak.aggL | apply Weak.vsR | apply WeakL.cons | apply WeakR.cons
theorem same2 (H : List Blk) : ACalls Try.prog 13 [.agg known2L.cells, .agg [I 1, nilS, nilS, I 0, .vs 11 (known2L.code.map Line.cells)]] H (fun e H' => e = .ret (Bo true) ∧ H' = H) := by
  refine acalls_weak (args' := [.agg known2L.cells, .agg known2L.cells]) ?_ ((same_ok known2L known2L (by decide) (by decide) (by decide) H).mono fun e H' h => by simpa using h)
  simp only [known2L, Linear.cells, Int.sl, Line.sl, List.map_cons, List.map_nil, Line.cells]
  repeat first | exact Weak.refl _ | exact Weak.nil _ | exact WeakL.nil | exact WeakR.nil | apply Weak.aggL | apply Weak.vsR | apply WeakL.cons | apply WeakR.cons
theorem known_ok (H : List Blk) : ACalls Try.prog 10 [] H (fun e H' => e = .ret (Bo true) ∧ H' = H) := by
  refine acalls_tidy (acalls_of_vc (hn := fun _ => false) (od := fun _ => none) Try.func10 rfl (by kernel_rfl) ?_)
  have c1 := known1_call
  have c2 := known2_call
  have s1 := same1
  have s2 := same2
  simp only [known1L, known2L, Linear.cells, Int.sl, Line.sl, List.map_cons, List.map_nil, Line.cells, lineOf, insOf] at c1 c2 s1 s2
  simp -dsimp
  repeat' ((with_reducible first | refine And.intro ?_ ?_ | refine guardVW_introTD (fun _ => ?_) (fun _ => ?_) | refine guardVW_introFD (fun _ => ?_) (fun _ => ?_) | refine condVW_introD (fun _ => ?_) (fun _ => ?_) | refine guardVW_introTE (fun _ => ?_) (fun _ _ _ => ?_) | refine guardVW_introFE (fun _ => ?_) (fun _ _ _ => ?_) | refine condVW_introE (fun _ => ?_) (fun _ _ _ => ?_) | refine guardVW_introTNE (fun _ _ _ => ?_) (fun _ => ?_) | refine guardVW_introFNE (fun _ _ _ => ?_) (fun _ => ?_) | refine condVW_introNE (fun _ _ _ => ?_) (fun _ => ?_) | refine guardVW_introTB (fun _ => ?_) (fun _ => ?_) | refine guardVW_introFB (fun _ => ?_) (fun _ => ?_) | refine condVW_introB (fun _ => ?_) (fun _ => ?_) | refine guardVW_introT (fun _ => ?_) (fun _ => ?_) | refine guardVW_introF (fun _ => ?_) (fun _ => ?_) | refine condVW_intro (fun _ => ?_) (fun _ => ?_) | refine acallsW_det (c1 _) ?_ | refine callDW_intro (c1 _) ?_ | refine acallsW_det (c2 _) ?_ | refine callDW_intro (c2 _) ?_ | refine acallsW_det (s1 _) ?_ | refine callDW_intro (s1 _) ?_ | refine acallsW_det (s2 _) ?_ | refine callDW_intro (s2 _) ?_) <;> simp -dsimp [*])
  all_goals exact tidy_same rfl ⟨rfl, rfl⟩
end Go.Proofs
