/- The library's slices.Sort, by the kit's contract, over a row of the call's own. -/
import Derived.Test.YtganjkhdlehhdaaGreatFwQtoFwT
import Derived.Shelf.SortM.Plain
import Derived.Shelf.SortM.SortNone
set_option linter.unusedVariables false
set_option linter.unusedSimpArgs false
namespace Go.Mu
open Go.RowKit (Below)
open Go.Sort Go.Proofs Go.Shelf
def oneE {α : Type} (enc : α → Value) (l : List α) : List (List AV) := l.map fun x => [.v (enc x)]
theorem oneE_flat {α : Type} (enc : α → Value) (l : List α) : (oneE enc l).flatten = (l.map enc).map .v := by
  induction l with
  | nil => rfl
  | cons x l ih => simp only [oneE, List.map_cons, List.flatten_cons] at ih ⊢; rw [ih]; rfl
theorem repL_plainM {cx : Cx} {z : Bool} : ∀ {xs ys : List Value}, RepL cx z (xs.map .v) ys → ys = xs
  | [], ys, h => h.nil_inv
  | x :: xs, ys, h => by
    obtain ⟨y, ys', rfl, h1, h2⟩ := h.cons_inv
    rw [h1.v_inv, repL_plainM h2]
theorem putCells_list1 {α : Type} [Inhabited α] (enc : α → Value) (F : List α) (c : List Value) (h : F.length ≤ c.length) : putCells enc 0 F.toArray c.toArray = (F.map enc ++ c.drop F.length).toArray := by
  apply Array.ext_getElem?
  intro t
  simp only [putCells, Array.getElem?_mapIdx, List.getElem?_toArray, Nat.zero_le, Nat.zero_add, true_and, Nat.sub_zero, List.size_toArray]
  by_cases ht : t < F.length
  · rw [List.getElem?_append_left (by simpa using ht), List.getElem?_eq_getElem (by omega)]
    simp only [Option.map_some, if_pos ht]
    rw [getElem!_pos F.toArray t (by simpa using ht)]
    simp [ht]
  · rw [List.getElem?_append_right (by simpa using (Nat.not_lt.1 ht))]
    simp only [if_neg ht, List.length_map, List.getElem?_drop]
    rw [show F.length + (t - F.length) = t by omega]
    cases c[t]? <;> rfl
theorem acalls_sort1 {P : Program} {H : List Blk} {k g : Nat} {t : TypeId} {α : Type} [Inhabited α] {enc : α → Value} (h1 : ∀ x : α, (enc x).oneCell' = true) (xs ys : List α) (hl : ys.length = xs.length)
    (hcall : ∀ blk cap w, Holds enc w blk 0 xs.toArray → blk < w.heap.size → Calls P g #[.slice (some ⟨blk, 0, none⟩) xs.length cap] w fun e w' => e = .returned (.tuple #[]) ∧ ∃ n os, w' = grow (putRow enc (Sort.ahead w n) blk 0 ys.toArray) os)
    (hK : H[k]? = some (.row t 1 (oneE enc xs))) :
    ACalls P g [.hs k 0 xs.length xs.length] H (fun e H' => e = .ret (.tup []) ∧ H' = H.set k (.row t 1 (oneE enc ys))) := by
  intro B w0 cx vals hR hH hA
  subst hH
  obtain ⟨v1, vs1, rfl, r1, hA1⟩ := hA.cons_inv
  obtain rfl := hA1.nil_inv
  have hlen : (oneE enc xs).length = xs.length := by simp [oneE]
  obtain ⟨b1, b2, b3, b4, b5, b6, cells, b7, b8, b9, b10⟩ := hR.blk k _ hK
  rw [hlen] at b5 b9
  rw [oneE_flat] at b9
  have hcell := repL_plainM b9
  rw [Nat.mul_one] at hcell b8
  have hsl : v1 = .slice (some ⟨cx.κ k, 0, none⟩) xs.length (cx.γ k) := by
    cases r1 with
    | hs k off n ver y ho bl hk' hp =>
      rw [hK] at hk'; cases hk'
      rcases hp with hf | ⟨t', sz', es', he, hv, hy⟩
      · simp [Blk.fixed] at hf
      · simp only [Blk.row.injEq] at he
        obtain ⟨rfl, rfl, rfl⟩ := he
        obtain ⟨_, hy⟩ := hy hlen
        simpa using hy
  subst hsl
  have hge : xs.length ≤ cells.length := by rw [b8]; exact b5
  have hHolds : Holds enc cx.w (cx.κ k) 0 xs.toArray := by
    intro j hj
    have hj' : j < xs.length := by simpa using hj
    have e : cells[j]? = some (enc xs.toArray[j]!) := by
      have : (cells.take xs.length)[j]? = cells[j]? := List.getElem?_take_of_lt hj'
      rw [← this, hcell, getElem!_pos xs.toArray j hj]
      simp [hj']
    constructor
    · show (match cx.w.heap[cx.κ k]? with | some (.cells c _ _) => _ | _ => _) = _
      rw [b7]
      simp [e]
    · show World.frozen? _ _ = _
      simp [World.frozen?, b7]
  have hblk : cx.κ k < cx.w.heap.size := (Array.getElem?_eq_some_iff.1 b7).1
  refine (hcall (cx.κ k) (cx.γ k) cx.w hHolds hblk).mono ?_
  rintro e w' ⟨rfl, n, os, rfl⟩
  have hyl : (oneE enc ys).length = xs.length := by simp [oneE, hl]
  obtain ⟨cells', hcells'⟩ : ∃ cells', cells' = ys.map enc ++ cells.drop ys.length := ⟨_, rfl⟩
  have hcl : cells'.length = cx.γ k * 1 := by rw [hcells', List.length_append, List.length_drop, List.length_map, hl, Nat.mul_one, ← b8]; omega
  have hct : cells'.take (xs.length * 1) = ys.map enc := by rw [hcells', Nat.mul_one, ← hl, List.take_append_of_le_length (by simp), List.take_of_length_le (by simp)]
  have hone : ∀ x ∈ cells', x.oneCell' = true := by
    intro x hx
    rw [hcells'] at hx
    rcases List.mem_append.1 hx with hx | hx
    · obtain ⟨y, _, rfl⟩ := List.mem_map.1 hx
      exact h1 y
    · exact b10 x (List.mem_of_mem_drop hx)
  have hput := put_row (es' := oneE enc ys) (vals' := cells') hR hK
    (fun e he => by obtain ⟨x, _, rfl⟩ := List.mem_map.1 he; rfl) (by rw [hlen, hyl]; exact Nat.le_refl _) (by rw [hyl]; exact b5) hcl
    (by rw [hyl, hct, oneE_flat]; exact RepL.of_v _ _ _) hone
  obtain ⟨hle1, hR1⟩ := hput
  have hrow : (putRow enc (Sort.ahead cx.w n) (cx.κ k) 0 ys.toArray).heap = (cx.w.setRow (cx.κ k) cells'.toArray).heap := by
    apply Array.ext_getElem?
    intro i
    by_cases hi : i = cx.κ k
    · subst hi
      rw [setRow_heap _ _ _ _ _ _ b7]
      show ((cx.w.heap.modify (cx.κ k) _))[cx.κ k]? = _
      rw [Array.getElem?_modify, if_pos rfl, b7]
      simp only [Option.map_some, onCells]
      rw [putCells_list1 _ _ _ (by rw [hl]; exact hge), hcells']
    · rw [setRow_other _ _ _ _ hi]
      show ((cx.w.heap.modify (cx.κ k) _))[i]? = _
      rw [Array.getElem?_modify, if_neg (fun h => hi h.symm)]
  obtain ⟨cx1, hcx1⟩ : ∃ cx1, cx1 = cx.put k (cx.w.setRow (cx.κ k) cells'.toArray) (.row t 1 (oneE enc ys)) := ⟨_, rfl⟩
  have hw1 : cx1.w = cx.w.setRow (cx.κ k) cells'.toArray := by rw [hcx1]; rfl
  rw [← hcx1] at hle1 hR1
  obtain ⟨W, hW⟩ : ∃ W, W = grow (putRow enc (Sort.ahead cx.w n) (cx.κ k) 0 ys.toArray) os := ⟨_, rfl⟩
  rw [← hW]
  have hWh : W.heap = cx1.w.heap ++ os := by rw [hW, hw1, ← hrow]; rfl
  have hb : Below cx1.w.heap.size cx1.w W := by
    refine ⟨?_, ?_, ?_, by rw [hWh]; simp, fun i hi => by rw [hWh, Array.getElem?_append, if_pos hi]⟩
    all_goals (rw [hW, hw1]; rfl)
  exact ⟨{ cx1 with w := W }, .tup [], rfl, hrel_ext hR1 hb, hle1.trans (le_of_ext hb.block), tup_nil_undef _ _, rfl, by rw [hcx1]; rfl⟩
end Go.Mu
