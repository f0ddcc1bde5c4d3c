/- The document's flat code: which may be, how many nodes, how deep. -/
import Derived.Test.YteoimifnfkpdeaaS1
set_option linter.unusedVariables false
set_option linter.unusedSimpArgs false
set_option maxHeartbeats 4000000
namespace Go.Proofs
open Go.Mu
/-- May an instruction be, over so many variables? -/
def insOk (vars : Int) (x : Ins) : Bool :=
  (x.kind == 1 && isV x.d vars && x.op == 0 && x.a == 0 && x.b == 0 && x.c == 0 && !x.stack) ||
  (x.kind == 2 && isV x.d vars && isV x.a vars && x.op == 0 && x.b == 0 && x.c == 0 && x.word == 0 && !x.stack) ||
  (x.kind == 3 && isV x.d vars && isV x.a vars && x.word == 0 && !x.stack &&
    ((arity x.op == 1 && x.b == 0 && x.c == 0) || (arity x.op == 2 && isV x.b vars && x.c == 0) || (arity x.op == 3 && isV x.b vars && isV x.c vars))) ||
  (x.kind == 4 && isV x.d vars && (x.a == -1 || isV x.a vars) && x.op == 0 && x.b == 0 && x.c == 0) ||
  (x.kind == 5 && x.d == 0 && (x.a == -1 || isV x.a vars) && isV x.b vars && x.op == 0 && x.c == 0)
def zeroIns : Ins := ⟨0, 0, 0, 0, 0, 0, 0, false⟩
mutual
/-- May nodes be, so deep? -/
def Node.ok (vars deep : Int) : Node → Bool
  | .mk k i c a b e => if k = 1 then insOk vars i && c == 0 && a.isEmpty && b.isEmpty && e.isEmpty
    else if k = 2 ∨ k = 3 then decide (i = zeroIns) && isV c vars && (k == 2 || e.isEmpty) && nodesOk vars (deep + 1) a && nodesOk vars (deep + 1) b && nodesOk vars (deep + 1) e
    else false
def nodesOk (vars deep : Int) : List Node → Bool
  | [] => true
  | n :: l => decide (deep ≤ 65) && n.ok vars deep && nodesOk vars deep l
end
theorem Node.ok_eq (vars deep : Int) (n : Node) : n.ok vars deep = if n.kind = 1 then insOk vars n.ins && n.cond == 0 && n.ahead.isEmpty && n.body.isEmpty && n.els.isEmpty
    else if n.kind = 2 ∨ n.kind = 3 then decide (n.ins = zeroIns) && isV n.cond vars && (n.kind == 2 || n.els.isEmpty) && nodesOk vars (deep + 1) n.ahead && nodesOk vars (deep + 1) n.body && nodesOk vars (deep + 1) n.els
    else false := by cases n; simp only [Node.ok, Node.kind, Node.ins, Node.cond, Node.ahead, Node.body, Node.els]; rfl
theorem nodesOk_drop {vars deep : Int} {l : List Node} {i : Nat} (h : i < l.length) : nodesOk vars deep (l.drop i) = (decide (deep ≤ 65) && l[i].ok vars deep && nodesOk vars deep (l.drop (i + 1))) := by rw [drop_cons h, nodesOk]

theorem ins_ok (x : Ins) (vars : Int) (H : List Blk) : ACalls Try.prog 55 [.agg x.cells, I vars] H (fun e H' => e = .ret (Bo (insOk vars x)) ∧ H' = H) := by
  refine acalls_tidy (acalls_of_vc (hn := fun _ => false) (od := fun _ => none) Try.func55 rfl (by kernel_rfl) ?_)
  simp -dsimp
  repeat' ((with_reducible first | refine And.intro ?_ ?_ | refine guardVW_introTD (fun _ => ?_) (fun _ => ?_) | refine guardVW_introFD (fun _ => ?_) (fun _ => ?_) | refine condVW_introD (fun _ => ?_) (fun _ => ?_) | refine guardVW_introTE (fun _ => ?_) (fun _ _ _ => ?_) | refine guardVW_introFE (fun _ => ?_) (fun _ _ _ => ?_) | refine condVW_introE (fun _ => ?_) (fun _ _ _ => ?_) | refine guardVW_introTNE (fun _ _ _ => ?_) (fun _ => ?_) | refine guardVW_introFNE (fun _ _ _ => ?_) (fun _ => ?_) | refine condVW_introNE (fun _ _ _ => ?_) (fun _ => ?_) | refine guardVW_introTB (fun _ => ?_) (fun _ => ?_) | refine guardVW_introFB (fun _ => ?_) (fun _ => ?_) | refine condVW_introB (fun _ => ?_) (fun _ => ?_) | refine guardVW_introT (fun _ => ?_) (fun _ => ?_) | refine guardVW_introF (fun _ => ?_) (fun _ => ?_) | refine condVW_intro (fun _ => ?_) (fun _ => ?_) | refine acallsW_det (is_ok _ _ _) ?_ | refine callDW_intro (is_ok _ _ _) ?_ | refine acallsW_det (rarity_ok _ _) ?_ | refine callDW_intro (rarity_ok _ _) ?_) <;> simp -dsimp [*])
  all_goals refine tidy_same (by first | rfl | simp [AV.under, underL]) ?_
  all_goals refine ⟨congrArg (fun b => AE.ret (Bo b)) ?_, rfl⟩
  all_goals first | (simp_all [insOk]; done) | (have ha := arity_01 x.op; simp only [insOk, isV] at *; grind)

end Go.Proofs
