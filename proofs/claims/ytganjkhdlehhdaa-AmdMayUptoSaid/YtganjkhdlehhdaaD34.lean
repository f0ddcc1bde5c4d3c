/- Proved: the statement AmdMayUptoSaid: for every input of bulk at most 1048576 the law AmdMay returns true, and its arguments read as they did. Conditions: those of the row. -/
import Derived.Test.YtganjkhdlehhdaaKN0toL10
import Derived.Test.YtganjkhdlehhdaaKN41toAML
import Derived.OpenShut
import Derived.JoinedCond
set_option linter.unusedVariables false
set_option linter.unusedSimpArgs false
set_option maxRecDepth 100000
namespace Go.Proofs.Ytganjkhdlehhdaa.amdMayUpto
open Go.ChangeShapes Go.WideShapes Go.ChangeAt Go.RowKit Go.Mu Go.Proofs
theorem own : ownKnob Try.prog.godebug = none := by kernel_rfl
theorem laidOut : laidOutB Try.prog = true := by kernel_rfl
theorem params : Try.f3.params.toList = [22, 3] := by kernel_rfl
theorem contract (H : Type) (enc : TypeId × Value → H) (W : World) (base : Nat) (args : Array Value) (ds gs : List (DataW H)) (before : List MemPlace)
    (hval : ∀ (j : Nat) t v, Try.f3.params[j]? = some t → args[j]? = some v → Value.okWide Try.prog W .any base t v)
    (hW : DataW.Whole enc Try.prog Try.f3.params.toList Rows.amdMaySpec.vars false W args.toList ds gs before) (hk : Rows.uptoSmall H (ds ++ gs) = true) :
    Calls Try.prog 3 args W fun e W' => ∃ v, e = .returned v ∧ Rows.amdMaySpec.post enc Try.prog Try.f3 false true false false W args v W' :=
  Lift.law_contract (ts := [22, 3]) laidOut params (by kernel_rfl) Try.underlying4 rfl (by kernel_rfl)
    (fun H enc W W' args ds p hl hA hB hW bel => match ds, hl, hA, hB, hW with
      | [d0, d1], _, hA, hB, hW => ⟨_, _, _, [], _, [], hW, trodAll_mk1 (shut_bool Try.underlying4 _), hB, rfl, bel.frame _, fun h => by cases h⟩)
    H enc W base args ds gs before hval hW hk
    (Lift.args_cons Lift.arg_amds fun l h1 hs => Lift.args_cons Lift.arg_int fun k h2 hs2 => Lift.args_nil (may_law l k (by omega) h1 []))
theorem lifted (os : Os) (started : os.Started) (H : Type) (enc : TypeId × Value → H) (F : Stop.Interp) :
    ReturnsInHanded {} Try.checked os 3 .any ((Rows.OpenSpec.upto Rows.amdMaySpec).pre6 enc Try.prog Try.f3 Rows.amdMayUptoRow.domain false) (((Rows.OpenSpec.upto Rows.amdMaySpec).at F).post enc Try.prog Try.f3 false true false false) := by
  refine returnsInHanded_of_cond (C := Try.checked) (s := Rows.OpenSpec.upto Rows.amdMaySpec) (k := Rows.uptoSmall) rfl own started (by kernel_rfl) Try.func3
    (OpenSpec.witness (enc := enc) (C := Try.checked) (s := Rows.OpenSpec.upto Rows.amdMaySpec) (k := Rows.uptoSmall) rfl false ⟨#[], #[.slice none 0 0, .int .i64 0], []⟩ 8 (by kernel_rfl) (by kernel_rfl) (by kernel_rfl)
      (x := ([.nil, .lit (.int .i64 0)], [], [])) (by kernel_rfl) rfl (by kernel_rfl)) ?_
  intro W base args ds gs before hval hW _ hk _
  exact contract H enc W base args ds gs before hval hW hk
theorem over : Rows.amdMayUptoRow.holds Try.pinned (Rows.OpenSpec.upto Rows.amdMaySpec) :=
  OpenClaim.holds_of_cond 3 Try.f3 rfl rfl rfl rfl rfl rfl rfl ⟨rfl, rfl, rfl, rfl, rfl⟩ rfl rfl rfl rfl rfl (by kernel_rfl) Try.func3 (by kernel_rfl)
    (of_decide_eq_true (by kernel_rfl)) (by unfold Func.isWrapper; first | (rw [if_pos (by decide +kernel)]; kernel_rfl) | (rw [if_neg (by decide +kernel)]; exact ⟨rfl, rfl⟩))
    (fun os started H enc _ F => lifted os started H enc F)
theorem proved : Rows.AmdMayUptoSaid := over
#print axioms proved
end Go.Proofs.Ytganjkhdlehhdaa.amdMayUpto
