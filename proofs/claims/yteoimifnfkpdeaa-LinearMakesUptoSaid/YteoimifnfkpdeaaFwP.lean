/- Small rules that came up later. -/
import Derived.Test.YteoimifnfkpdeaaFwO
set_option linter.unusedVariables false
set_option linter.unusedSimpArgs false
namespace Go.Mu
open Go.RowKit (Below)
theorem appendVW_hs {H : List Blk} {sl : TypeId × Nat × List Value × Nat} {k n m : Nat} {es ys : List (List AV)} {K : AV → List Blk → Prop} {w : Wit K} (hk : H[k]? = some (.row sl.1 sl.2.1 es)) (hn : n = es.length) (hm : m = es.length)
    (hb : (es.length + ys.length) * sl.2.2.2 ≤ 140737488355328) (h63 : es.length + ys.length ≤ 9223372036854775807) (h : K (.hs k 0 (es.length + ys.length) (es.length + ys.length)) (H.set k (.row sl.1 sl.2.1 (es ++ ys)))) : appendVW H sl (.hs k 0 n m) ys K w := by
  subst hn; subst hm
  unfold appendVW appendV
  show (match H[k]? with | some (.row t z es') => _ | _ => False)
  rw [hk]
  exact ⟨⟨rfl, rfl, rfl⟩, .inl ⟨⟨rfl, hb, h63⟩, h⟩⟩
theorem tidy_weak {R : AE → List Blk → Prop} {r r' : AV} {H' : List Blk} (hw : Weak r r') (h : R (.ret r') H') : WeakE R (.ret r) H' := ⟨r', hw, h⟩
theorem tidy_now {H : List Blk} {R : AE → List Blk → Prop} {r : AV} (hu : r.under H.length = true) (h : R (.ret r) H) : Tidy H R (.ret r) H := ⟨_, _, .refl _ _, H, [], by simp, Nat.le_refl _, id, hu, h⟩
theorem tidy_nowP {H : List Blk} {R : AE → List Blk → Prop} {r : AV} (hu : r.under H.length = true) (h : R (.pan r) H) : Tidy H R (.pan r) H := ⟨_, _, .refl _ _, H, [], by simp, Nat.le_refl _, id, hu, h⟩
theorem tidy_sameP {H L : List Blk} {R : AE → List Blk → Prop} {r : AV} (hu : r.under H.length = true) (h : R (.pan r) H) : Tidy H R (.pan r) (H ++ L) := ⟨_, _, .refl _ _, H, L, rfl, Nat.le_refl _, id, hu, h⟩
@[simp] theorem deferV_fn (P : Program) (g : FuncId) (first cap args : List AV) (k : ADef → Prop) : deferV P (.fn (.func g) first cap) args k = k ⟨g, first ++ args ++ cap⟩ := rfl
theorem tidy_give1 {H : List Blk} {L : List Blk} {R : AE → List Blk → Prop} {r : AV} (hu : underH H.length H = true) (sz : Nat) (t : TypeId) (es : List (List AV)) (hz : es.flatten.all AV.frzB = true)
    (hun : (r.frz H.length sz es).under H.length = true) (h : R (.ret (r.frz H.length sz es)) H) : Tidy H R (.ret r) (H ++ .row t sz es :: L) := by
  refine tidy_give hu 0 sz t es rfl hz ?_
  exact tidy_same (by simpa using hun) (by simpa using h)
theorem set2_set2 {H : List Blk} {a b : Nat} (ha : a < H.length) (hb : b < H.length) (hab : a ≠ b) (X Y X' Y' : Blk) : set2 (set2 H a X b Y) a X' b Y' = set2 H a X' b Y' := by
  have := m2_set2 ha hb hab X Y X' Y' []
  simpa using this
theorem frz_own (k sz : Nat) (es : List (List AV)) (he : es ≠ []) : (ownS k es).frz k sz es = .vs sz es := by
  rw [ownS, if_neg he]
  simp [AV.frz]
end Go.Mu
