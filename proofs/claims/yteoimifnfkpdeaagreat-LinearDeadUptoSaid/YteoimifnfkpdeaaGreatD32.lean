/- Proved: the statement LinearDeadUptoSaid: for every input of bulk at most 1048576 the law LinearDead returns true, and its arguments read as they did. Conditions: those of the row. -/
import Derived.Test.YteoimifnfkpdeaaGreatFwYtoL9
import Derived.Test.YteoimifnfkpdeaaGreatFS5toCZP
import Derived.Test.YteoimifnfkpdeaaGreatKN0toRM8
import Derived.OpenShut
import Derived.JoinedCond
set_option linter.unusedVariables false
set_option linter.unusedSimpArgs false
set_option maxRecDepth 100000
namespace Go.Proofs.YteoimifnfkpdeaaGreat.linearDeadUpto
open Go.ChangeShapes Go.WideShapes Go.ChangeAt Go.RowKit Go.Mu Go.Proofs
theorem own : ownKnob Tryz.prog.godebug = none := by kernel_rfl
theorem laidOut : laidOutB Tryz.prog = true := by kernel_rfl
theorem params : Tryz.f4.params.toList = [25, 26, 26, 27, 28, 3] := by kernel_rfl
theorem contract (H : Type) (enc : TypeId × Value → H) (W : World) (base : Nat) (args : Array Value) (ds gs : List (DataW H)) (before : List MemPlace)
    (hval : ∀ (j : Nat) t v, Tryz.f4.params[j]? = some t → args[j]? = some v → Value.okWide Tryz.prog W .any base t v)
    (hW : DataW.Whole enc Tryz.prog Tryz.f4.params.toList Rows.linearDeadSpec.vars false W args.toList ds gs before) (hk : Rows.uptoSmall H (ds ++ gs) = true) :
    Calls Tryz.prog 4 args W fun e W' => ∃ v, e = .returned v ∧ Rows.linearDeadSpec.post enc Tryz.prog Tryz.f4 false true false false W args v W' :=
  Lift.law_contract (ts := [25, 26, 26, 27, 28, 3]) laidOut params (by kernel_rfl) Tryz.underlying4 rfl (by kernel_rfl)
    (fun H enc W W' args ds p hl hA hB hW bel => match ds, hl, hA, hB, hW with
      | [d0, d1, d2, d3, d4, d5], _, hA, hB, hW => ⟨_, _, _, [], _, [], hW, trodAll_mk1 (shut_bool Tryz.underlying4 _), hB, rfl, bel.frame _, fun h => by cases h⟩)
    H enc W base args ds gs before hval hW hk
    (Lift.args_cons Lift.arg_linear fun l hw h1 => Lift.args_cons Lift.arg_wo fun args _ h2 => Lift.args_cons Lift.arg_wo fun oth _ h3 => Lift.args_cons Lift.arg_rgs fun r _ h4 => Lift.args_cons Lift.arg_us fun w _ h5 => Lift.args_cons Lift.arg_int fun F _ h6 => Lift.args_nil (dead_law l args oth r w F (sm_of (by omega)) (by omega) (by omega) (by omega) hw []))
theorem lifted (os : Os) (started : os.Started) (H : Type) (enc : TypeId × Value → H) (F : Stop.Interp) :
    ReturnsInHanded {} Tryz.checked os 4 .any ((Rows.OpenSpec.upto Rows.linearDeadSpec).pre6 enc Tryz.prog Tryz.f4 Rows.linearDeadUptoRow.domain false) (((Rows.OpenSpec.upto Rows.linearDeadSpec).at F).post enc Tryz.prog Tryz.f4 false true false false) := by
  refine returnsInHanded_of_cond (C := Tryz.checked) (s := Rows.OpenSpec.upto Rows.linearDeadSpec) (k := Rows.uptoSmall) rfl own started (by kernel_rfl) Tryz.func4
    (OpenSpec.witness (enc := enc) (C := Tryz.checked) (s := Rows.OpenSpec.upto Rows.linearDeadSpec) (k := Rows.uptoSmall) rfl false ⟨#[], #[.agg #[.int .i64 0, .slice none 0 0, .slice none 0 0, .int .i64 0, .slice none 0 0], .slice none 0 0, .slice none 0 0, .slice none 0 0, .slice none 0 0, .int .i64 0], []⟩ 8 (by kernel_rfl) (by kernel_rfl) (by kernel_rfl)
      (x := ([.agg [.lit (.int .i64 0), .nil, .nil, .lit (.int .i64 0), .nil], .nil, .nil, .nil, .nil, .lit (.int .i64 0)], [], [])) (by kernel_rfl) rfl (by kernel_rfl)) ?_
  intro W base args ds gs before hval hW _ hk _
  exact contract H enc W base args ds gs before hval hW hk
theorem over : Rows.linearDeadUptoRow.holds Tryz.pinned (Rows.OpenSpec.upto Rows.linearDeadSpec) :=
  OpenClaim.holds_of_cond 4 Tryz.f4 rfl rfl rfl rfl rfl rfl rfl ⟨rfl, rfl, rfl, rfl, rfl⟩ rfl rfl rfl rfl rfl (by kernel_rfl) Tryz.func4 (by kernel_rfl)
    (of_decide_eq_true (by kernel_rfl)) (by unfold Func.isWrapper; first | (rw [if_pos (by decide +kernel)]; kernel_rfl) | (rw [if_neg (by decide +kernel)]; exact ⟨rfl, rfl⟩))
    (fun os started H enc _ F => lifted os started H enc F)
theorem proved : Rows.LinearDeadUptoSaid := over
#print axioms proved
end Go.Proofs.YteoimifnfkpdeaaGreat.linearDeadUpto
