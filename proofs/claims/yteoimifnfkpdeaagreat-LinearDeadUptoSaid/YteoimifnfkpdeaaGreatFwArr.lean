/- Great arrays: what is nought, as the kit tells it. -/
import Derived.Test.YteoimifnfkpdeaaGreatFwQtoFwT
set_option linter.unusedVariables false
set_option linter.unusedSimpArgs false
namespace Go.Mu
theorem zeroOf_of_run {P : Program} {t : TypeId} {z : Value} (w : World) (h : (zeroValue t).run P w = .ok z w) : zeroOf P t = some z := by
  unfold zeroOf
  cases hi : P.info? t with
  | none => simp [zeroValue, typeInfo, hi] at h
  | some i =>
    cases hz : i.zero with
    | none => simp [zeroValue, typeInfo, hi, hz] at h
    | some z' =>
      simp [zeroValue, typeInfo, hi, hz] at h
      simp [hz, h]
theorem bldOf_arr {P : Program} {t e : TypeId} {n s : Nat} {z : Value} (hz : zeroOf P t = some z) (ha : arOf P t = some (n, e)) (hs : szOf P e = some s) : bldOf P t = some (z.cells.toList, (List.range n).map fun i => (i * s, s)) := by
  unfold zeroOf at hz
  unfold arOf at ha
  unfold szOf at hs
  unfold bldOf
  cases hi : P.info? t with
  | none => rw [hi] at hz; cases hz
  | some i =>
    rw [hi] at hz
    simp only [Option.bind_some] at hz
    cases hu : P.underlying t with
    | none => rw [hu] at ha; cases ha
    | some d =>
      rw [hu] at ha
      cases d <;> simp at ha
      obtain ⟨h1, h2⟩ := ha
      rw [h1, h2]
      cases he : P.info? e with
      | none => simp [he] at hs
      | some ie =>
        simp [he] at hs
        simp [hz, he, hs]
theorem spl_one {α : Type} (cs : List α) (i : Nat) (x : α) (h : i < cs.length) : spl cs i [x] = cs.set i x := by
  unfold spl
  rw [List.set_eq_take_append_cons_drop, if_pos h]
  simp
theorem astore_box1 {M : List Blk} {k t i : Nat} {cs : List AV} {x : AV} (hk : M[k]? = some (.box t cs)) (h : i < cs.length) : astore M (.bp k i) [x] = some (M.set k (.box t (cs.set i x))) := by
  simp only [astore, hk, List.length_singleton]
  rw [if_pos (by omega), spl_one _ _ _ h]
@[simp] theorem binV_bp (P : Program) (op : BinOp) (t : TypeId) (c : Bool) (k o : Nat) (b : AV) (K : AV → Prop) (w : Wit K) : binV P op t c false (.bp k o) b K w = bindOW (binE P op t (.bp k o) b) K (wit _) := by simp [binV, isNum, isNilSl, nnB, andV]; rfl
theorem setSelf {α : Type} {l : List α} {k : Nat} {x : α} (h : l[k]? = some x) : l.set k x = l := by
  apply List.ext_getElem?
  intro j
  by_cases e : j = k
  · subst e; rw [List.getElem?_set_self (List.getElem?_eq_some_iff.1 h).1, h]
  · rw [List.getElem?_set_ne (fun q => e q.symm)]
end Go.Mu
