/- The library's slices.Compact, by the kit's contract, over a row of the call's own. -/
import Derived.Test.YtganjkhdlehhdaaGreatFwSortM
import Derived.Shelf.SlicesG.CompactI
import Derived.Test.YtganjkhdlehhdaaGreatCL1toRL2
set_option linter.unusedVariables false
set_option linter.unusedSimpArgs false
set_option maxHeartbeats 4000000
set_option maxRecDepth 100000
namespace Go.Mu
open Go.RowKit (Below)
open Go.Sort Go.Proofs Go.Shelf
def compRow (zs : List Int) : List Int := Lib.compact zs ++ List.replicate (zs.length - (Lib.compact zs).length) 0
theorem compact_len (zs : List Int) : (Lib.compact zs).length ≤ zs.length := by
  unfold Lib.compact Lib.compactUpTo
  rw [List.length_map]
  refine Nat.le_trans (List.length_filter_le _ _) ?_
  simp
theorem compRow_len (zs : List Int) : (compRow zs).length = zs.length := by
  have := compact_len zs
  unfold compRow
  simp; omega
theorem acalls_compact {P : Program} {H : List Blk} {k g : Nat} {t : TypeId} (xs : List Int)
    (hcall : ∀ blk cap w, Holds (Value.int .i64) w blk 0 xs.toArray → blk < w.heap.size → xs.length ≤ cap → Calls P g #[.slice (some ⟨blk, 0, none⟩) xs.length cap] w fun e w' => e = .returned (.slice (some ⟨blk, 0, none⟩) (Lib.compact xs).length cap) ∧ ∃ n, w' = putRow (Value.int .i64) (Sort.ahead w n) blk 0 (compRow xs).toArray)
    (hK : H[k]? = some (.row t 1 (oneE (Value.int .i64) xs))) :
    ACalls P g [.hs k 0 xs.length xs.length] H (fun e H' => e = .ret (.hs k 0 (Lib.compact xs).length xs.length) ∧ H' = H.set k (.row t 1 (oneE (Value.int .i64) (compRow xs)))) := by
  obtain ⟨ys, hys⟩ : ∃ ys, ys = compRow xs := ⟨_, rfl⟩
  have hl : ys.length = xs.length := by rw [hys, compRow_len]
  rw [← hys] at hcall ⊢
  obtain ⟨m, hm⟩ : ∃ m, m = (Lib.compact xs).length := ⟨_, rfl⟩
  have hml : m ≤ xs.length := by rw [hm]; exact compact_len xs
  rw [← hm] at hcall ⊢
  clear hm hys
  obtain ⟨enc, henc⟩ : ∃ enc : Int → Value, enc = Value.int .i64 := ⟨_, rfl⟩
  have h1 : ∀ x : Int, (enc x).oneCell' = true := fun x => by rw [henc]; rfl
  rw [← henc] at hcall hK ⊢
  intro B w0 cx vals hR hH hA
  subst hH
  obtain ⟨v1, vs1, rfl, r1, hA1⟩ := hA.cons_inv
  obtain rfl := hA1.nil_inv
  have hlen : (oneE enc xs).length = xs.length := by simp [oneE]
  obtain ⟨b1, b2, b3, b4, b5, b6, cells, b7, b8, b9, b10⟩ := hR.blk k _ hK
  rw [hlen] at b5 b9
  rw [oneE_flat] at b9
  have hcell := repL_plainM b9
  rw [Nat.mul_one] at hcell b8
  have hsl : v1 = .slice (some ⟨cx.κ k, 0, none⟩) xs.length (cx.γ k) := by
    cases r1 with
    | hs k off n ver y ho bl hk' hp =>
      rw [hK] at hk'; cases hk'
      rcases hp with hf | ⟨t', sz', es', he, hv, hy⟩
      · simp [Blk.fixed] at hf
      · simp only [Blk.row.injEq] at he
        obtain ⟨rfl, rfl, rfl⟩ := he
        obtain ⟨_, hy⟩ := hy hlen
        simpa using hy
  subst hsl
  have hge : xs.length ≤ cells.length := by rw [b8]; exact b5
  have hHolds : Holds enc cx.w (cx.κ k) 0 xs.toArray := by
    intro j hj
    have hj' : j < xs.length := by simpa using hj
    have e : cells[j]? = some (enc xs.toArray[j]!) := by
      have : (cells.take xs.length)[j]? = cells[j]? := List.getElem?_take_of_lt hj'
      rw [← this, hcell, getElem!_pos xs.toArray j hj]
      simp [hj']
    constructor
    · show (match cx.w.heap[cx.κ k]? with | some (.cells c _ _) => _ | _ => _) = _
      rw [b7]
      simp [e]
    · show World.frozen? _ _ = _
      simp [World.frozen?, b7]
  have hblk : cx.κ k < cx.w.heap.size := (Array.getElem?_eq_some_iff.1 b7).1
  refine (hcall (cx.κ k) (cx.γ k) cx.w hHolds hblk b5).mono ?_
  rintro e w' ⟨rfl, n, rfl⟩
  have hyl : (oneE enc ys).length = xs.length := by simp [oneE, hl]
  obtain ⟨cells', hcells'⟩ : ∃ cells', cells' = ys.map enc ++ cells.drop ys.length := ⟨_, rfl⟩
  have hcl : cells'.length = cx.γ k * 1 := by rw [hcells', List.length_append, List.length_drop, List.length_map, hl, Nat.mul_one, ← b8]; omega
  have hct : cells'.take (xs.length * 1) = ys.map enc := by rw [hcells', Nat.mul_one, ← hl, List.take_append_of_le_length (by simp), List.take_of_length_le (by simp)]
  have hone : ∀ x ∈ cells', x.oneCell' = true := by
    intro x hx
    rw [hcells'] at hx
    rcases List.mem_append.1 hx with hx | hx
    · obtain ⟨y, _, rfl⟩ := List.mem_map.1 hx
      exact h1 y
    · exact b10 x (List.mem_of_mem_drop hx)
  have hput := put_row (es' := oneE enc ys) (vals' := cells') hR hK
    (fun e he => by obtain ⟨x, _, rfl⟩ := List.mem_map.1 he; rfl) (by rw [hlen, hyl]; exact Nat.le_refl _) (by rw [hyl]; exact b5) hcl
    (by rw [hyl, hct, oneE_flat]; exact RepL.of_v _ _ _) hone
  obtain ⟨hle1, hR1⟩ := hput
  have hrow : (putRow enc (Sort.ahead cx.w n) (cx.κ k) 0 ys.toArray).heap = (cx.w.setRow (cx.κ k) cells'.toArray).heap := by
    apply Array.ext_getElem?
    intro i
    by_cases hi : i = cx.κ k
    · subst hi
      rw [setRow_heap _ _ _ _ _ _ b7]
      show ((cx.w.heap.modify (cx.κ k) _))[cx.κ k]? = _
      rw [Array.getElem?_modify, if_pos rfl, b7]
      simp only [Option.map_some, onCells]
      rw [putCells_list1 _ _ _ (by rw [hl]; exact hge), hcells']
    · rw [setRow_other _ _ _ _ hi]
      show ((cx.w.heap.modify (cx.κ k) _))[i]? = _
      rw [Array.getElem?_modify, if_neg (fun h => hi h.symm)]
  obtain ⟨cx1, hcx1⟩ : ∃ cx1, cx1 = cx.put k (cx.w.setRow (cx.κ k) cells'.toArray) (.row t 1 (oneE enc ys)) := ⟨_, rfl⟩
  have hw1 : cx1.w = cx.w.setRow (cx.κ k) cells'.toArray := by rw [hcx1]; rfl
  have hk1 : cx1.κ = cx.κ := by rw [hcx1]; rfl
  have hg1 : cx1.γ = cx.γ := by rw [hcx1]; rfl
  have hH1 : cx1.H = cx.H.set k (.row t 1 (oneE enc ys)) := by rw [hcx1]; rfl
  rw [← hcx1] at hle1 hR1
  obtain ⟨W, hW⟩ : ∃ W, W = putRow enc (Sort.ahead cx.w n) (cx.κ k) 0 ys.toArray := ⟨_, rfl⟩
  rw [← hW]
  have hWh : W.heap = cx1.w.heap := by rw [hW, hw1, ← hrow]
  have hb : Below cx1.w.heap.size cx1.w W := by
    refine ⟨?_, ?_, ?_, by rw [hWh]; exact Nat.le_refl _, fun i hi => by rw [hWh]⟩
    all_goals (rw [hW, hw1]; rfl)
  have hres : Rep { cx1 with w := W } false (.hs k 0 m xs.length) (.slice (some ⟨cx.κ k, 0, none⟩) m (cx.γ k)) := by
    refine .hs k 0 m xs.length _ rfl (.row t 1 (oneE enc ys)) ?_ (.inr ⟨t, 1, _, rfl, by rw [hyl]; exact Nat.le_refl _, fun _ => ⟨by omega, ?_⟩⟩)
    · show cx1.H[k]? = _
      rw [hH1, List.getElem?_set_self (lt_of_get hK)]
    · show _ = Value.slice (some ⟨cx1.κ k, _, none⟩) _ _
      rw [hk1, hg1]; simp
  exact ⟨{ cx1 with w := W }, .hs k 0 m xs.length, rfl, hrel_ext hR1 hb, hle1.trans (le_of_ext hb.block), hres, rfl, by rw [hcx1]; rfl⟩
end Go.Mu
namespace Go.Proofs
open Go.Mu
theorem compactUpTo_rise (d : List Int) (hd : d.Pairwise (· ≤ ·)) (m : Nat) (hm : m ≤ d.length) : Rising (Lib.compactUpTo d.toArray m) ∧ (∀ x, x ∈ Lib.compactUpTo d.toArray m ↔ ∃ j, j < m ∧ d[j]? = some x) := by
  induction m with
  | zero => exact ⟨by simp [Lib.compactUpTo], fun x => by simp [Lib.compactUpTo]⟩
  | succ m ih =>
    obtain ⟨h1, h2⟩ := ih (by omega)
    have hml : m < d.length := by omega
    have e1 : d.toArray[m]! = d[m] := by rw [getElem!_pos d.toArray m (by simpa using hml)]; simp
    have le : ∀ i j x y, i ≤ j → d[i]? = some x → d[j]? = some y → x ≤ y := fun i j x y hij hx hy => by
      obtain ⟨hi, rfl⟩ := List.getElem?_eq_some_iff.1 hx
      obtain ⟨hj, rfl⟩ := List.getElem?_eq_some_iff.1 hy
      rcases Nat.lt_or_ge i j with h | h
      · exact List.pairwise_iff_getElem.1 hd i j hi hj h
      · have := Nat.le_antisymm hij h
        subst this
        exact Int.le_refl _
    rw [Lib.compactUpTo_succ, e1]
    have hgm := List.getElem?_eq_getElem hml
    by_cases hk : Lib.keeps d.toArray m = true
    · rw [if_pos hk]
      constructor
      · refine List.pairwise_append.2 ⟨h1, by simp, fun x hx y hy => ?_⟩
        rw [List.mem_singleton] at hy
        subst hy
        obtain ⟨j, hj, hjx⟩ := (h2 x).1 hx
        unfold Lib.keeps at hk
        rw [decide_eq_true_eq] at hk
        rcases hk with hk | hk
        · omega
        · have e2 : d.toArray[m - 1]! = d[m - 1] := by rw [getElem!_pos d.toArray (m - 1) (by simp; omega)]; simp
          rw [e1, e2] at hk
          have := le j (m - 1) _ _ (by omega) hjx (List.getElem?_eq_getElem (by omega))
          have := le (m - 1) m _ _ (by omega) (List.getElem?_eq_getElem (by omega)) hgm
          omega
      · intro x
        rw [List.mem_append, List.mem_singleton, h2]
        constructor
        · rintro (⟨j, hj, hx⟩ | rfl)
          · exact ⟨j, by omega, hx⟩
          · exact ⟨m, by omega, hgm⟩
        · rintro ⟨j, hj, hx⟩
          by_cases hjm : j = m
          · subst hjm
            rw [hgm, Option.some.injEq] at hx
            exact .inr hx.symm
          · exact .inl ⟨j, by omega, hx⟩
    · rw [if_neg hk, List.append_nil]
      refine ⟨h1, fun x => ?_⟩
      rw [h2]
      constructor
      · rintro ⟨j, hj, hx⟩
        exact ⟨j, by omega, hx⟩
      · rintro ⟨j, hj, hx⟩
        by_cases hjm : j = m
        · subst hjm
          unfold Lib.keeps at hk
          rw [decide_eq_true_eq, not_or, Classical.not_not] at hk
          have e2 : d.toArray[j - 1]! = d[j - 1] := by rw [getElem!_pos d.toArray (j - 1) (by simp; omega)]; simp
          rw [e1, e2] at hk
          refine ⟨j - 1, by omega, ?_⟩
          rw [List.getElem?_eq_getElem (by omega), ← hk.2, ← hgm, hx]
        · exact ⟨j, by omega, hx⟩
def sortI (l : List Int) : List Int := l.mergeSort fun x y => decide (x ≤ y)
theorem sortI_perm (l : List Int) : (sortI l).Perm l := List.mergeSort_perm _ _
theorem sortI_le (l : List Int) : (sortI l).Pairwise (· ≤ ·) := by
  have := List.pairwise_mergeSort (le := fun x y : Int => decide (x ≤ y)) (fun a b c h1 h2 => by simp at *; omega) (fun a b => by simp; omega) l
  exact this.imp fun h => by simpa using h
theorem compact_sort (l : List Int) : Lib.compact (sortI l) = riseL l := by
  obtain ⟨h1, h2⟩ := compactUpTo_rise (sortI l) (sortI_le l) (sortI l).length (Nat.le_refl _)
  refine rise_eq h1 fun y => ?_
  unfold Lib.compact
  rw [h2]
  constructor
  · rintro ⟨j, hj, hy⟩
    exact (sortI_perm l).mem_iff.1 (List.mem_of_getElem? hy)
  · intro hy
    obtain ⟨j, hj⟩ := List.mem_iff_getElem?.1 ((sortI_perm l).mem_iff.2 hy)
    exact ⟨j, (List.getElem?_eq_some_iff.1 hj).1, hj⟩
end Go.Proofs
