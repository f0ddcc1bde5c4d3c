/- What is live in code that goes straight on, reckoned (no program in sight). -/
import Derived.Test.YtklgcajfkkoacaaGreatCL2toRL2
import Derived.Test.YtklgcajfkkoacaaGreatFS5toCWA
set_option linter.unusedVariables false
set_option linter.unusedSimpArgs false
set_option maxHeartbeats 4000000
set_option maxRecDepth 100000
namespace Go.Proofs
open Go.Mu
def liveC (l : Linear) : Nat → Nat → List Int
  | 0, _ => []
  | f + 1, i => match l.code[i]? with
    | none => if i = l.code.length then riseL l.rets else []
    | some x => riseL (x.raw ++ (nxt l i).flatMap fun k => (liveC l f k.toNat).filter fun v => !decide (v ∈ x.defs))
def straight (l : Linear) : Bool := (List.range l.code.length).all fun i => (nxt l i).all fun k => decide ((i : Int) < k)
theorem liveC_rise (l : Linear) (f i : Nat) : Rising (liveC l f i) := by
  cases f with
  | zero => exact List.Pairwise.nil
  | succ f =>
    rw [liveC]
    split
    · split
      · exact riseL_rise _
      · exact List.Pairwise.nil
    · exact riseL_rise _
theorem liveAt_iff {l : Linear} {i : Nat} {x : Line} (hx : l.code[i]? = some x) {v : Int} : LiveAt l i v ↔ v ∈ x.raw ∨ (v ∉ x.defs ∧ ∃ k : Nat, (k : Int) ∈ nxt l i ∧ LiveAt l k v) := by
  constructor
  · intro h
    cases h with
    | told h => rw [List.getElem?_eq_none (Nat.le_refl _)] at hx; cases hx
    | read hx' h => rw [hx, Option.some.injEq] at hx'; subst hx'; exact .inl h
    | way hx' hd hk h => rw [hx, Option.some.injEq] at hx'; subst hx'; exact .inr ⟨hd, _, hk, h⟩
  · rintro (h | ⟨h, k, hk, hl⟩)
    · exact .read hx h
    · exact .way hx h hk hl
theorem liveC_iff {l : Linear} (ho : LinOk l) (hst : straight l = true) : ∀ (f i : Nat), l.code.length < f + i → ∀ v, v ∈ liveC l f i ↔ LiveAt l i v
  | 0, i, hf, v => by
    rw [liveC]
    constructor
    · intro h; simp at h
    · intro h; have := (live_in ho h).2; omega
  | f + 1, i, hf, v => by
    rw [liveC]
    split
    · rename_i hx
      have hi := List.getElem?_eq_none_iff.1 hx
      by_cases e : i = l.code.length
      · rw [if_pos e, riseL_mem, e]
        constructor
        · exact .told
        · intro h
          cases h with
          | told h => exact h
          | read hx _ => have := (List.getElem?_eq_some_iff.1 hx).1; omega
          | way hx _ _ _ => have := (List.getElem?_eq_some_iff.1 hx).1; omega
      · rw [if_neg e]
        constructor
        · intro h; simp at h
        · intro h; have := (live_in ho h).2; omega
    · rename_i x hx
      rw [riseL_mem, List.mem_append, List.mem_flatMap, liveAt_iff hx]
      have hil := (List.getElem?_eq_some_iff.1 hx).1
      have hgt : ∀ k ∈ nxt l i, (i : Int) < k := fun k hk => by
        have := List.all_eq_true.1 (List.all_eq_true.1 hst i (List.mem_range.2 hil)) k hk
        exact of_decide_eq_true this
      constructor
      · rintro (h | ⟨k, hk, h⟩)
        · exact .inl h
        · rw [List.mem_filter] at h
          have hk2 := hgt k hk
          refine .inr ⟨by simpa using h.2, k.toNat, by rw [Int.toNat_of_nonneg (by omega)]; exact hk, (liveC_iff ho hst f k.toNat (by omega) v).1 h.1⟩
      · rintro (h | ⟨hd, k, hk, h⟩)
        · exact .inl h
        · have hk2 := hgt _ hk
          refine .inr ⟨(k : Int), hk, ?_⟩
          rw [List.mem_filter, Int.toNat_natCast]
          exact ⟨(liveC_iff ho hst f k (by omega) v).2 h, by simpa using hd⟩
theorem liveC_eq {l : Linear} (hok : l.ok = true) (hst : straight l = true) (i : Nat) : liveL l i = liveC l (l.code.length + 1) i := by
  have ho := ((ok_iff l).1 hok).1
  refine sorted_ext (liveL_rise _ _) (liveC_rise _ _ _) fun v => ?_
  rw [live_mem ho]
  by_cases hi : i ≤ l.code.length
  · exact (liveC_iff ho hst _ i (by omega) v).symm
  · constructor
    · intro h; have := (live_in ho h).2; omega
    · intro h
      rw [liveC, List.getElem?_eq_none (by omega)] at h
      simp only at h
      rw [if_neg (by omega)] at h
      simp at h
end Go.Proofs
namespace Go.Proofs
open Go.Mu
def mvL (d a : Int) : Line := ⟨1, ⟨2, 0, d, a, 0, 0, 0, false⟩, 0, 0⟩
def wdL (d n : Int) : Line := ⟨1, ⟨1, 0, d, 0, 0, 0, n, false⟩, 0, 0⟩
def enL : Line := ⟨5, zeroIns, 0, 0⟩
def lA : Linear := ⟨2, [0], [1, 0], 0, [mvL 1 0, wdL 0 5, enL]⟩
def lB : Linear := ⟨2, [0], [1], 0, [mvL 1 0, enL]⟩
theorem sm_of {l : Linear} (h : l.params.length + l.rets.length + l.code.length ≤ 2^36) : l.Sm := ⟨by omega, by omega, by omega⟩
end Go.Proofs
