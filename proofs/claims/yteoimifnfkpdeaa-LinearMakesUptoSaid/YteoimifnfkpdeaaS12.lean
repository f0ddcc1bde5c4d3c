/- May linear code be: the labels that stand, the lines, one by one. -/
import Derived.Test.YteoimifnfkpdeaaS11
set_option linter.unusedVariables false
set_option linter.unusedSimpArgs false
set_option maxHeartbeats 4000000
set_option maxRecDepth 100000
namespace Go.Proofs
open Go.Mu
/-- A map that tells which labels stand. -/
def stand (ls : List Int) : List (Value × AV) := ls.map fun n => (.int .i64 n, .agg [Bo true])
theorem sameNow_i64 (a b : Int) : Instr.sameNow (.int .i64) (.int .i64 a) (.int .i64 b) = some (a == b) := by rfl
theorem stand_find (n : Int) (ls : List Int) : mfind (.int .i64) (.int .i64 n) (stand ls) = some (if n ∈ ls then some (.agg [Bo true]) else none) := by
  induction ls with
  | nil => rfl
  | cons a l ih =>
    have : stand (a :: l) = (.int .i64 a, .agg [Bo true]) :: stand l := rfl
    rw [this, mfind, sameNow_i64]
    by_cases h : n = a
    · subst h; simp
    · have e : (n == a) = false := by simp [h]
      rw [e]; simp only [ih, List.mem_cons, h, false_or]
theorem stand_set (n : Int) (ls : List Int) (h : n ∉ ls) : mset (.int .i64) (.int .i64 n) (.agg [Bo true]) (stand ls) = some (stand (ls ++ [n])) := by
  induction ls with
  | nil => rfl
  | cons a l ih =>
    have : stand (a :: l) = (.int .i64 a, .agg [Bo true]) :: stand l := rfl
    simp only [List.mem_cons, not_or] at h
    have e : (n == a) = false := by simp [h.1]
    rw [this, mset, sameNow_i64, e]
    simp only [ih h.2]; rfl
@[simp] theorem avz107 : assertV.avZ (Value.agg #[Value.bool false]) = .agg [Bo false] := (rfl)
theorem jumps_ok (x : Line) (ls : List Int) (k m : Nat) (H : List Blk) (hk : H[k]? = some (.box 106 [.hm m])) (hm : H[m]? = some (.map (stand ls))) :
    ACalls Try.prog 45 [.agg x.cells, .bp k 0] H (fun e H' => e = .ret (Bo ((x.kind == 3 || x.kind == 4) && !decide (x.label ∈ ls))) ∧ H' = H) := by
  have hkl : k < H.length := (List.getElem?_eq_some_iff.1 hk).1
  have hml : m < H.length := (List.getElem?_eq_some_iff.1 hm).1
  have hk' : ∀ L, (H ++ L)[k]? = some (.box 106 [.hm m]) := fun L => by rw [List.getElem?_append_left hkl, hk]
  have hm' : ∀ L, mapEs (H ++ L) (.hm m) = some (stand ls) := fun L => by simp only [mapEs]; rw [List.getElem?_append_left hml, hm]
  have hf := stand_find x.label ls
  refine acalls_tidy (acalls_of_vc (hn := fun _ => false) (od := fun _ => none) Try.func45 rfl (by kernel_rfl) ?_)
  simp -dsimp
  by_cases hmem : x.label ∈ ls
  all_goals (simp only [hmem, if_true, if_false] at hf)
  all_goals repeat' ((with_reducible first | refine And.intro ?_ ?_ | refine guardVW_introTD (fun _ => ?_) (fun _ => ?_) | refine guardVW_introFD (fun _ => ?_) (fun _ => ?_) | refine condVW_introD (fun _ => ?_) (fun _ => ?_) | refine guardVW_introTE (fun _ => ?_) (fun _ _ _ => ?_) | refine guardVW_introFE (fun _ => ?_) (fun _ _ _ => ?_) | refine condVW_introE (fun _ => ?_) (fun _ _ _ => ?_) | refine guardVW_introTNE (fun _ _ _ => ?_) (fun _ => ?_) | refine guardVW_introFNE (fun _ _ _ => ?_) (fun _ => ?_) | refine condVW_introNE (fun _ _ _ => ?_) (fun _ => ?_) | refine guardVW_introTB (fun _ => ?_) (fun _ => ?_) | refine guardVW_introFB (fun _ => ?_) (fun _ => ?_) | refine condVW_introB (fun _ => ?_) (fun _ => ?_) | refine guardVW_introT (fun _ => ?_) (fun _ => ?_) | refine guardVW_introF (fun _ => ?_) (fun _ => ?_) | refine condVW_intro (fun _ => ?_) (fun _ => ?_)) <;> simp -dsimp [*])
  all_goals exact tidy_same rfl ⟨by simp [*], rfl⟩
end Go.Proofs
