/- What comes in, as abstract values: what a reading tells; and the frame of each statement's proof. -/
import Derived.Test.YtganjkhdlehhdaaFwOtoFwP
import Derived.Test.YtganjkhdlehhdaaRows
import Derived.ProofKit
import Derived.OpenShut
import Derived.ChangeOld
import Derived.ChangeArms
import Derived.Below
import Derived.Carry
import Derived.JoinedCond
import Derived.Deep.Slices
import Derived.DataShut
set_option linter.unusedVariables false
set_option linter.unusedSimpArgs false
set_option maxHeartbeats 4000000
set_option maxRecDepth 100000
namespace Go.Proofs.Ytganjkhdlehhdaa.Lift
open Go.ChangeShapes Go.WideShapes Go.ChangeAt Go.RowKit Go.Mu Go.Proofs
section
variable {H : Type} {enc : TypeId × Value → H} {P : Program} {cx : Cx}
def cx0 (W : World) : Cx := ⟨W, (· < W.heap.size), fun _ => 0, fun _ => 0, []⟩
theorem one_int {W : World} {base : Nat} {t : TypeId} {k : IntKind} (ht : P.underlying t = some (.int k)) : ∀ v, Value.okWide P W .any base t v → v.cells = #[v] := by
  intro v hv; obtain ⟨n, rfl⟩ := okWide_int ht hv; rfl
theorem one_slice {W : World} {base : Nat} {t e : TypeId} (ht : P.underlying t = some (.slice e)) : ∀ v, Value.okWide P W .any base t v → v.cells = #[v] := by
  intro v hv; obtain ⟨a, len, cap, rfl⟩ := okWide_slice ht hv; rfl
theorem one_string {W : World} {base : Nat} {t : TypeId} (ht : P.underlying t = some .string) : ∀ v, Value.okWide P W .any base t v → v.cells = #[v] := by
  intro v hv; obtain ⟨s, rfl⟩ := okWide_string ht hv; rfl
theorem one_bool {W : World} {base : Nat} {t : TypeId} (ht : P.underlying t = some .bool) : ∀ v, Value.okWide P W .any base t v → v.cells = #[v] := by
  intro v hv; obtain ⟨s, rfl⟩ := okWide_bool ht hv; rfl
def ArgsOk (enc : TypeId × Value → H) (P : Program) (W : World) (base : Nat) (ts : List TypeId) (good : List AV → Prop) : Prop :=
  ∀ vs ds p, (∀ (j : Nat) t v, ts[j]? = some t → vs[j]? = some v → Value.okWide P W .any base t v) → DataW.TrodAll enc P W 0 (fun _ => true) true ts vs ds p → Rows.uptoBulkAll ds ≤ 1048576 →
    ∃ avs, RepL (cx0 W) false avs vs ∧ good avs
theorem args_nil {W : World} {base : Nat} {good : List AV → Prop} (h : good []) : ArgsOk enc P W base [] good := by
  intro vs ds p _ ht _
  obtain ⟨rfl, rfl, rfl⟩ := trodAll_nil ht
  exact ⟨[], RepL.nil _ _, h⟩
theorem below_all (hl : laidOutB P = true) {W W' : World} (hb : Below W.heap.size W W') : ∀ (ts : List TypeId) (vs : List Value) (ds : List (DataW H)) (ps : List MemPlace), ts.all (fun t => P.readableRec t && decide (t < P.types.size)) = true →
    DataW.TrodAll enc P W 0 (fun _ => true) true ts vs ds ps → DataW.TrodAll enc P W' 0 (fun b => decide (b < W.heap.size)) true ts vs ds ps
  | [], vs, ds, ps, _, h => by obtain ⟨rfl, rfl, rfl⟩ := trodAll_nil h; exact trodAll_mk0
  | t :: ts, vs, ds, ps, hr, h => by
    obtain ⟨v, vs', d, ds', p, q, rfl, rfl, rfl, h0, r0⟩ := trodAll_cons h
    simp only [List.all_cons, Bool.and_eq_true, decide_eq_true_eq] at hr
    have lt0 : ∀ x ∈ p, x.block < W.heap.size := by obtain ⟨m, hm⟩ := h0; exact DataW.trod_lt m _ _ _ hm
    exact trodAll_cons_mk (Below.trod hl hr.1.1 hr.1.2 h0 hb lt0) (below_all hl hb ts vs' ds' q hr.2 r0)
theorem trod_len {W : World} : ∀ {ts : List TypeId} {vs : List Value} {ds : List (DataW H)} {ps : List MemPlace}, DataW.TrodAll enc P W 0 (fun _ => true) true ts vs ds ps → ds.length = ts.length
  | [], vs, ds, ps, h => by obtain ⟨rfl, rfl, rfl⟩ := trodAll_nil h; rfl
  | t :: ts, vs, ds, ps, h => by obtain ⟨v, vs', d, ds', p', q, rfl, rfl, rfl, h0, r0⟩ := trodAll_cons h; simp [trod_len r0]
theorem law_contract {C : Program} {f : FuncId} {fn : Func} {spec : ChangeSpec} {ts : List TypeId} (laid : laidOutB C = true) (hp : fn.params.toList = ts) (hres : fn.resultTypes.toList = [4]) (hb4 : C.underlying 4 = some .bool)
    (hvars : spec.vars = []) (hall : ts.all (fun t => C.readableRec t && decide (t < C.types.size)) = true)
    (hspec : ∀ (H : Type) (enc : TypeId × Value → H) (W W' : World) (args : Array Value) (ds : List (DataW H)) (p : List MemPlace), ds.length = ts.length →
      DataW.TrodAll enc C W 0 (fun _ => true) true ts args.toList ds p → DataW.TrodAll enc C W' 0 (fun b => decide (b < W.heap.size)) true ts args.toList ds p → DataW.Whole enc C fn.params.toList spec.vars false W args.toList ds [] p → Below W.heap.size W W' →
      spec.post enc C fn false true false false W args (.bool true) W')
    (H : Type) (enc : TypeId × Value → H) (W : World) (base : Nat) (args : Array Value) (ds gs : List (DataW H)) (before : List MemPlace)
    (hval : ∀ (j : Nat) t v, fn.params[j]? = some t → args[j]? = some v → Value.okWide C W .any base t v)
    (hW : DataW.Whole enc C fn.params.toList spec.vars false W args.toList ds gs before) (hk : Rows.uptoSmall H (ds ++ gs) = true)
    (hargs : ArgsOk enc C W base ts (fun avs => ACalls C f avs [] (fun e H' => e = .ret (.v (.bool true)) ∧ H' = []))) :
    Calls C f args W fun e W' => ∃ v, e = .returned v ∧ spec.post enc C fn false true false false W args v W' := by
  have hW' := hW
  obtain ⟨p, q, hA0, hV, rfl, hfz, hnd⟩ := hW
  rw [hvars] at hV
  obtain ⟨rfl, rfl⟩ := trodVars_none hV
  have hA : DataW.TrodAll enc C W 0 (fun _ => true) true ts args.toList ds p := by rw [← hp]; exact hA0
  have hb : Rows.uptoBulkAll ds ≤ 1048576 := by
    have h : Rows.uptoBulkAll (ds ++ []) ≤ 1048576 := of_decide_eq_true hk
    simpa using h
  obtain ⟨avs, hr, hg⟩ := hargs args.toList ds p (fun j t v h1 h2 => hval j t v (by rw [← hp] at h1; simpa using h1) (by simpa using h2)) hA hb
  have hrel : HRel W.heap.size W (cx0 W) := ⟨Below.refl _ _, Nat.le_refl _, fun b h => h, fun k bl h => by simp [cx0] at h, fun k k' bl bl' h => by simp [cx0] at h⟩
  have walk := hg W.heap.size W (cx0 W) args.toList hrel rfl hr
  rw [Array.toArray_toList] at walk
  have hlen : ds.length = ts.length := trod_len hA
  refine walk.mono fun e W' he => ?_
  cases e with
  | returned y =>
    obtain ⟨cx', r, rfl, hr', _, hy, hR⟩ := he
    obtain ⟨hr1, _⟩ := hR
    obtain rfl : r = .v (.bool true) := by cases hr1; rfl
    obtain rfl : y = .bool true := by cases hy; rfl
    have bel := hr'.below
    exact ⟨_, rfl, hspec H enc W cx'.w args ds _ hlen hA (below_all laid bel ts args.toList ds _ hall hA) (by simpa using hW') bel⟩
  | panicked ch =>
    obtain ⟨_, x, y, _, _, _, _, _, hR⟩ := he
    cases hR.1
  | outgrown => exact he.elim
end
end Go.Proofs.Ytganjkhdlehhdaa.Lift
