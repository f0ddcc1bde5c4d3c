/- More steps, and variables that are not live: plain law of runs. -/
import Derived.Test.YteoimifnfkpdeaaFwJmptoRM4
set_option linter.unusedVariables false
set_option linter.unusedSimpArgs false
set_option maxHeartbeats 4000000
set_option maxRecDepth 100000
namespace Go.Proofs
open Go.Mu
theorem doM_err (lay : List Rg) (x : Ins) (stk : Int) (V b : List Int) : (doM lay x stk V b).err = 0 ∨ (doM lay x stk V b).err = 14 := by
  unfold doM
  repeat' split
  all_goals first | exact .inl rfl | exact .inr rfl
theorem lstep_err (lay : List Rg) (l : Linear) (stk : Int) (x : Line) (s : RSt) : (lstep lay l stk x s).2 = 0 ∨ (lstep lay l stk x s).2 = 14 := by
  unfold lstep
  split
  · exact doM_err _ _ _ _ _
  · repeat' split
    all_goals exact .inl rfl
theorem lstep_seen (lay : List Rg) (l : Linear) (stk : Int) (x : Line) (s : RSt) : ∃ t, (lstep lay l stk x s).1.seen = s.seen ++ t := by
  unfold lstep
  split
  · simp only
    split
    · exact ⟨_, rfl⟩
    · exact ⟨[], by simp⟩
  · repeat' split
    all_goals first | exact ⟨_, rfl⟩ | exact ⟨[], (List.append_nil _).symm⟩
theorem lrun_seen (lay : List Rg) (l : Linear) (stk : Int) (fuel : Nat) : ∀ (m : Nat) (s : RSt), ∃ t, (lrun lay l stk fuel m s).seen = s.seen ++ t := by
  intro m
  induction m with
  | zero =>
    intro s
    cases hx : l.code[s.i]? with
    | none => rw [lrun_none hx]; exact ⟨[], by simp⟩
    | some x => rw [lrun_zero hx]; exact ⟨[], by simp⟩
  | succ m ih =>
    intro s
    cases hx : l.code[s.i]? with
    | none => rw [lrun_none hx]; exact ⟨[], by simp⟩
    | some x =>
      obtain ⟨t1, h1⟩ := lstep_seen lay l stk x s
      rw [lrun_succ hx]
      split
      · obtain ⟨t2, h2⟩ := ih (lstep lay l stk x s).1
        exact ⟨t1 ++ t2, by rw [h2, h1, List.append_assoc]⟩
      · exact ⟨t1, h1⟩
structure More (A B : Ran) (fuel : Nat) : Prop where
  steps : A.steps ≤ fuel
  same : A.err ≠ 7 → A = B
  off : A.err = 7 → A.steps = fuel ∧ A.rets = [] ∧ ∃ t, B.seen = A.seen ++ t
theorem lrun_more (lay : List Rg) (l : Linear) (stk : Int) (fuel more : Nat) : ∀ (m : Nat) (s : RSt), m ≤ fuel → More (lrun lay l stk fuel m s) (lrun lay l stk (fuel + more) (m + more) s) fuel := by
  intro m
  induction m with
  | zero =>
    intro s hm
    cases hx : l.code[s.i]? with
    | none => rw [lrun_none hx, lrun_none hx]; exact ⟨by simp, fun _ => by simp, fun h => absurd h (show ¬ (0 : Int) = 7 by decide)⟩
    | some x =>
      obtain ⟨t, ht⟩ := lrun_seen lay l stk (fuel + more) (0 + more) s
      rw [lrun_zero hx]
      exact ⟨by simp, fun h => absurd rfl h, fun _ => ⟨rfl, rfl, t, ht⟩⟩
  | succ m ih =>
    intro s hm
    cases hx : l.code[s.i]? with
    | none => rw [lrun_none hx, lrun_none hx]; exact ⟨by simp, fun _ => by congr 1; omega, fun h => absurd h (show ¬ (0 : Int) = 7 by decide)⟩
    | some x =>
      rw [show m + 1 + more = (m + more) + 1 by omega, lrun_succ hx, lrun_succ hx]
      by_cases he : (lstep lay l stk x s).2 = 0
      · rw [if_pos he, if_pos he]
        exact ih _ (by omega)
      · rw [if_neg he, if_neg he]
        have h14 : (lstep lay l stk x s).2 = 14 := (lstep_err lay l stk x s).resolve_left he
        exact ⟨by show fuel - m ≤ fuel; omega, fun _ => by congr 1; omega, fun h => absurd (h14.symm.trans h) (show ¬ (14 : Int) = 7 by decide)⟩
theorem runM_more (lay : List Rg) (l : Linear) (args b : List Int) (stk : Int) (fuel more : Nat) : More (runM lay l args b stk fuel) (runM lay l args b stk (fuel + more)) fuel := lrun_more lay l stk fuel more fuel _ (Nat.le_refl _)
end Go.Proofs
