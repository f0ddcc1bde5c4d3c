/- Proved: the statement LinearMakesUptoSaid: for every input of bulk at most 1048576 the law LinearMakes returns true, and its argument reads as it did. Conditions: those of the row (no ring in the input). -/
import Derived.Test.YteoimifnfkpdeaaS17
import Derived.OpenShut
import Derived.JoinedCond
set_option linter.unusedVariables false
set_option linter.unusedSimpArgs false
set_option maxRecDepth 100000
namespace Go.Proofs.Yteoimifnfkpdeaa.linearMakesUpto
open Go.ChangeShapes Go.WideShapes Go.ChangeAt Go.RowKit Go.Mu Go.Proofs
theorem own : ownKnob Try.prog.godebug = none := by kernel_rfl
theorem laidOut : laidOutB Try.prog = true := by kernel_rfl
theorem params : Try.f3.params = #[25] := by kernel_rfl
theorem contract (H : Type) (enc : TypeId × Value → H) (W : World) (base : Nat) (args : Array Value) (ds gs : List (DataW H)) (before : List MemPlace)
    (hval : ∀ (j : Nat) t v, Try.f3.params[j]? = some t → args[j]? = some v → Value.okWide Try.prog W .any base t v)
    (hW : DataW.Whole enc Try.prog Try.f3.params.toList Rows.linearMakesSpec.vars false W args.toList ds gs before) (hk : Rows.uptoSmall H (ds ++ gs) = true) :
    Calls Try.prog 3 args W fun e W' => ∃ v, e = .returned v ∧ Rows.linearMakesSpec.post enc Try.prog Try.f3 false true false false W args v W' := by
  have hW' := hW
  obtain ⟨p, q, hA0, hV, rfl, hfz, hnd⟩ := hW
  have hA : DataW.TrodAll enc Try.prog W 0 (fun _ => true) true Try.f3.params.toList args.toList ds p := hA0
  rw [params] at hA hval
  obtain ⟨v0, vs0, d0, ds0, p0, q0, hargs, rfl, rfl, h0, r0⟩ := trodAll_cons hA
  obtain ⟨rfl, rfl, rfl⟩ := trodAll_nil r0
  obtain rfl : args = #[v0] := by cases args; simp_all
  obtain ⟨rfl, rfl⟩ := trodVars_none hV
  have k0 := h0
  have lt0 : ∀ x ∈ p0, x.block < W.heap.size := by obtain ⟨m, hm⟩ := k0; exact DataW.trod_lt m _ _ _ hm
  obtain ⟨cs, rfl, hcs⟩ := okWide_struct Try.underlying25 (hval 0 25 v0 rfl rfl)
  have hb : Rows.uptoBulk d0 ≤ 1048576 := by
    have h : Rows.uptoBulkAll [d0] ≤ 1048576 := of_decide_eq_true hk
    simp only [Rows.uptoBulkAll] at h
    omega
  obtain ⟨fuel, hf⟩ := h0
  obtain ⟨f, hrep, _, hsize⟩ := tells_flat (cx := ⟨W, (· < W.heap.size), fun _ => 0, fun _ => 0, []⟩) (fun b h => h) fuel _ _ hf
  have hrel : HRel W.heap.size W ⟨W, (· < W.heap.size), fun _ => 0, fun _ => 0, []⟩ := ⟨Below.refl _ _, Nat.le_refl _, fun b h => h, fun k bl h => by simp at h, fun k k' bl bl' h => by simp at h⟩
  have walk := linearMakes_ok f (by simp only at hsize; omega) (by simp only at hsize; omega) (by simp only at hsize; omega) [] W.heap.size W _ [.agg cs] hrel rfl
    ((RepL.nil _ _).cons (by have := Rep.agg f.cells cs.toList hrep.len (fun j c x a b => (hrep.rep j c x a b).weak); simpa using this))
  clear hA0
  refine walk.mono fun e W' he => ?_
  cases e with
  | returned y =>
    obtain ⟨cx', r, rfl, hr', _, hy, hR⟩ := he
    obtain ⟨hr, _⟩ := hR
    obtain rfl : r = Bo true := by cases hr; rfl
    obtain rfl : y = .bool true := by cases hy; rfl
    have bel := hr'.below
    exact ⟨_, rfl, _, _, _, [], _, [], hW', trodAll_mk1 (shut_bool Try.underlying4 _), (trodAll_cons_mk (Below.trod laidOut (by kernel_rfl) (of_decide_eq_true (by kernel_rfl)) k0 bel lt0) trodAll_mk0), rfl, bel.frame _, fun h => by cases h⟩
  | panicked ch =>
    obtain ⟨_, x, y, _, _, _, _, _, hR⟩ := he
    cases hR.1
  | outgrown => exact he.elim
theorem lifted (os : Os) (started : os.Started) (H : Type) (enc : TypeId × Value → H) (F : Stop.Interp) :
    ReturnsInHanded {} Try.checked os 3 .any ((Rows.OpenSpec.upto Rows.linearMakesSpec).pre6 enc Try.prog Try.f3 Rows.linearMakesUptoRow.domain false) (((Rows.OpenSpec.upto Rows.linearMakesSpec).at F).post enc Try.prog Try.f3 false true false false) := by
  refine returnsInHanded_of_cond (C := Try.checked) (s := Rows.OpenSpec.upto Rows.linearMakesSpec) (k := Rows.uptoSmall) rfl own started (by kernel_rfl) Try.func3
    (OpenSpec.witness (enc := enc) (C := Try.checked) (s := Rows.OpenSpec.upto Rows.linearMakesSpec) (k := Rows.uptoSmall) rfl false ⟨#[], #[.agg #[.int .i64 0, .slice none 0 0, .slice none 0 0, .int .i64 0, .slice none 0 0]], []⟩ 8 (by kernel_rfl) (by kernel_rfl) (by kernel_rfl)
      (x := ([.agg [.lit (.int .i64 0), .nil, .nil, .lit (.int .i64 0), .nil]], [], [])) (by kernel_rfl) rfl (by kernel_rfl)) ?_
  intro W base args ds gs before hval hW _ hk _
  exact contract H enc W base args ds gs before hval hW hk
theorem over : Rows.linearMakesUptoRow.holds Try.pinned (Rows.OpenSpec.upto Rows.linearMakesSpec) :=
  OpenClaim.holds_of_cond 3 Try.f3 rfl rfl rfl rfl rfl rfl rfl ⟨rfl, rfl, rfl, rfl, rfl⟩ rfl rfl rfl rfl rfl (by kernel_rfl) Try.func3 (by kernel_rfl)
    (of_decide_eq_true (by kernel_rfl)) (by unfold Func.isWrapper; first | (rw [if_pos (by decide +kernel)]; kernel_rfl) | (rw [if_neg (by decide +kernel)]; exact ⟨rfl, rfl⟩))
    (fun os started H enc _ F => lifted os started H enc F)
theorem proved : Rows.LinearMakesUptoSaid := over
#print axioms proved
end Go.Proofs.Yteoimifnfkpdeaa.linearMakesUpto
