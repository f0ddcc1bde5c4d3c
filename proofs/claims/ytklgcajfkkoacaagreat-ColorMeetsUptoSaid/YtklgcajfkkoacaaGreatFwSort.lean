/- The library's slices.SortFunc, by the kit's contract, over a row of the call's own whose cells are plain values. -/
import Derived.Test.YtklgcajfkkoacaaGreatFwQtoFwT
import Derived.Shelf.SlSortCmp.WholeK
set_option linter.unusedVariables false
set_option linter.unusedSimpArgs false
namespace Go.Mu
open Go.RowKit (Below)
open Go.Sort Go.Proofs Go.Shelf
def plainE {α : Type} (enc : α → List Value) (l : List α) : List (List AV) := l.map fun x => (enc x).map .v
theorem plainE_flat {α : Type} (enc : α → List Value) (l : List α) : (plainE enc l).flatten = (l.map enc).flatten.map .v := by
  induction l with
  | nil => rfl
  | cons x l ih => simp only [plainE, List.map_cons, List.flatten_cons, List.map_append] at ih ⊢; rw [ih]
theorem repL_plain {cx : Cx} {z : Bool} : ∀ {xs ys : List Value}, RepL cx z (xs.map .v) ys → ys = xs
  | [], ys, h => h.nil_inv
  | x :: xs, ys, h => by
    obtain ⟨y, ys', rfl, h1, h2⟩ := h.cons_inv
    rw [h1.v_inv, repL_plain h2]
section
variable {α : Type} [Inhabited α] {enc : α → List Value} {sz : Nat}
theorem flatK_list (hk : ∀ x, (enc x).length = sz) (d : Array α) : (flatK enc sz d).toList = (d.toList.map enc).flatten := by
  have hl : ∀ l : List α, (l.map enc).flatten.length = l.length * sz := by
    intro l
    induction l with
    | nil => simp
    | cons x l ih => simp only [List.map_cons, List.flatten_cons, List.length_append, ih, hk, List.length_cons]; rw [Nat.add_mul]; omega
  have hg : ∀ (l : List α) (t : Nat), t < l.length * sz → (l.map enc).flatten[t]! = (enc l[t / sz]!)[t % sz]! := by
    intro l
    induction l with
    | nil => intro t h; simp at h
    | cons x l ih =>
      intro t h
      have hs : 0 < sz := by rcases Nat.eq_zero_or_pos sz with h0 | h0; subst h0; simp at h; exact h0
      simp only [List.map_cons, List.flatten_cons]
      by_cases ht : t < sz
      · rw [Nat.div_eq_of_lt ht, Nat.mod_eq_of_lt ht]
        have e1 : (enc x ++ (l.map enc).flatten)[t]? = (enc x)[t]? := List.getElem?_append_left (by rw [hk]; exact ht)
        simp only [List.getElem!_eq_getElem?_getD, e1]
        rfl
      · have e1 : (enc x ++ (l.map enc).flatten)[t]? = (l.map enc).flatten[t - sz]? := by rw [List.getElem?_append_right (by rw [hk]; omega), hk]
        have e2 : t / sz = (t - sz) / sz + 1 := Nat.div_eq_sub_div hs (by omega)
        have e3 : t % sz = (t - sz) % sz := by rw [Nat.mod_eq_sub_mod (by omega)]
        have := ih (t - sz) (by simp only [List.length_cons] at h; rw [Nat.add_mul] at h; omega)
        rw [e2, e3]
        simp only [List.getElem!_eq_getElem?_getD, e1] at this ⊢
        rw [this]
        simp
  refine List.ext_getElem? fun t => ?_
  by_cases ht : t < d.size * sz
  · have h1 := get_flatK enc sz d t ht
    have h2 := hg d.toList t (by simpa using ht)
    have l1 : t < (flatK enc sz d).toList.length := by simpa using ht
    have l2 : t < (d.toList.map enc).flatten.length := by rw [hl]; simpa using ht
    rw [List.getElem?_eq_getElem l1, List.getElem?_eq_getElem l2]
    congr 1
    rw [getElem!_pos (flatK enc sz d) t (by simpa using ht)] at h1
    rw [getElem!_pos _ t l2] at h2
    rw [h2, Array.getElem_toList, h1]
    congr 2
    by_cases hd : t / sz < d.size
    · rw [getElem!_pos d _ hd, getElem!_pos d.toList _ (by simpa using hd)]; simp
    · rw [getElem!_neg d _ hd, getElem!_neg d.toList _ (by simpa using hd)]
  · rw [List.getElem?_eq_none (by simp; omega), List.getElem?_eq_none (by rw [hl]; simp; omega)]
theorem putCells_list (F : Array Value) (c : List Value) (h : F.size ≤ c.length) : putCells id 0 F c.toArray = (F.toList ++ c.drop F.size).toArray := by
  apply Array.ext_getElem?
  intro t
  simp only [putCells, Array.getElem?_mapIdx, List.getElem?_toArray, id, Nat.zero_le, Nat.zero_add, true_and, Nat.sub_zero]
  by_cases ht : t < F.size
  · rw [List.getElem?_append_left (by simpa using ht), List.getElem?_eq_getElem (by omega)]
    simp only [Option.map_some, if_pos ht]
    rw [getElem!_pos F t ht]
    simp [ht]
  · rw [List.getElem?_append_right (by simpa using (Nat.not_lt.1 ht))]
    simp only [if_neg ht, Array.length_toList, List.getElem?_drop, Option.map_id']
    rw [show F.size + (t - F.size) = t by omega]
variable {P : Program} {ρ : Ren} {H : List Blk} {k g : Nat} {t : TypeId}
theorem acalls_sortFunc (L : SlLaysF0.n6 P ρ) (aE : ∀ w, (isAgg (ρ.t 24)).run P w = .ok true w) (zE : ∀ w, (Go.sizeOf (ρ.t 24)).run P w = .ok sz w)
    (hk : ∀ x : α, (enc x).length = sz) (h1 : ∀ x : α, ∀ v ∈ enc x, v.oneCell' = true) (cf : α → α → Int) (hO : SWO (ltOf cf))
    (eg : ∀ args w, (callFunc g args).run P w = .ok (.enter g args) w)
    (hc : ∀ (x y : α) (W : World), Calls P g #[.agg (enc x).toArray, .agg (enc y).toArray] W fun e w' => e = .returned (.int .i64 (cf x y)) ∧ ∃ q os', w' = grow (W.drewN q) os')
    (xs : List α) (hx : xs.length < 4611686018427387904) (hK : H[k]? = some (.row t sz (plainE enc xs))) :
    ACalls P (ρ.f 6) [.hs k 0 xs.length xs.length, .fn (.func g) [] []] H (fun e H' => e = .ret (.tup []) ∧ ∃ ys : List α, ys.Perm xs ∧ ys.Pairwise (fun x y => ¬ cf y x < 0) ∧ H' = H.set k (.row t sz (plainE enc ys))) := by
  intro B w0 cx vals hR hH hA
  subst hH
  obtain ⟨v1, vs1, rfl, r1, hA1⟩ := hA.cons_inv
  obtain ⟨v2, vs2, rfl, r2, hA2⟩ := hA1.cons_inv
  obtain rfl := hA2.nil_inv
  have hlen : (plainE enc xs).length = xs.length := by simp [plainE]
  -- the row as it lies
  obtain ⟨b1, b2, b3, b4, b5, b6, cells, b7, b8, b9, b10⟩ := hR.blk k _ hK
  rw [hlen] at b5 b9
  rw [plainE_flat] at b9
  have hcell := repL_plain b9
  have hsl : v1 = .slice (some ⟨cx.κ k, 0, none⟩) xs.length (cx.γ k) := by
    cases r1 with
    | hs k off n ver y ho bl hk' hp =>
      rw [hK] at hk'; cases hk'
      rcases hp with hf | ⟨t', sz', es', he, hv, hy⟩
      · simp [Blk.fixed] at hf
      · simp only [Blk.row.injEq] at he
        obtain ⟨rfl, rfl, rfl⟩ := he
        obtain ⟨_, hy⟩ := hy hlen
        simpa using hy
  have hfn : v2 = .func (.func g) #[] #[] := by
    cases r2 with
    | fn f fs cs vf vc hnf hrf hnc hrc =>
      have e1 : vf = [] := List.eq_nil_of_length_eq_zero (by simpa using hnf.symm)
      have e2 : vc = [] := List.eq_nil_of_length_eq_zero (by simpa using hnc.symm)
      subst e1; subst e2; rfl
  subst hsl; subst hfn
  have hfl := flatK_list (enc := enc) (sz := sz) hk xs.toArray
  simp only [List.toList_toArray] at hfl
  have hfs : (flatK enc sz xs.toArray).size = xs.length * sz := by simp
  have hge : xs.length * sz ≤ cells.length := by rw [b8]; exact Nat.mul_le_mul_right _ b5
  have hHolds : HoldsK enc sz cx.w (cx.κ k) 0 xs.toArray := by
    intro j hj
    rw [hfs] at hj
    have e : cells[j]? = some (flatK enc sz xs.toArray)[j]! := by
      have : (cells.take (xs.length * sz))[j]? = cells[j]? := List.getElem?_take_of_lt hj
      rw [← this, hcell, ← hfl, Array.getElem?_toList, getElem!_pos _ j (by rw [hfs]; exact hj), Array.getElem?_eq_getElem]
    constructor
    · show (match cx.w.heap[cx.κ k]? with | some (.cells c _ _) => _ | _ => _) = _
      rw [b7]
      simp [e]
    · show World.frozen? _ _ = _
      simp [World.frozen?, b7]
  have hblk : cx.κ k < cx.w.heap.size := (Array.getElem?_eq_some_iff.1 b7).1
  have hcmp : CmpLays P g #[] enc sz cf (cx.κ k) 0 xs.toArray.size cx.w := fun m os dk hs x y => by
    have := hc x y (sortWorldK enc sz cx.w (cx.κ k) 0 m dk os)
    simpa using this
  have hcall := AnyQ.slices_SortFunc L sz aE zE enc hk h1 cf hO g #[] (cx.κ k) 0 (cx.γ k) xs.toArray cx.w eg hcmp hHolds hblk (by simpa using hx)
  simp only [List.size_toArray] at hcall
  refine hcall.mono ?_
  rintro e w' ⟨rfl, d', n, os, hp, hs, rfl⟩
  have hsz : d'.size = xs.length := by rw [hp.1]; simp
  have hperm : d'.toList.Perm xs := by
    have := hp.2.2
    rw [← hsz] at this
    rw [Array.extract_size] at this
    have e2 : (xs.toArray.extract 0 d'.size) = xs.toArray := by rw [show d'.size = xs.toArray.size by simp [hsz]]; exact Array.extract_size
    rw [e2] at this
    exact this
  have hyl : (plainE enc d'.toList).length = xs.length := by simp [plainE, hsz]
  have hfl' := flatK_list (enc := enc) (sz := sz) hk d'
  have hfs' : (flatK enc sz d').size = xs.length * sz := by simp [hsz]
  have hls : (d'.toList.map enc).flatten.length = xs.length * sz := by rw [← hfl']; simp [hsz]
  obtain ⟨cells', hcells'⟩ : ∃ cells', cells' = (flatK enc sz d').toList ++ cells.drop (xs.length * sz) := ⟨_, rfl⟩
  have hcl : cells'.length = cx.γ k * sz := by rw [hcells', List.length_append, List.length_drop, hfl', hls, ← b8]; omega
  have hct : cells'.take (xs.length * sz) = (d'.toList.map enc).flatten := by rw [hcells', hfl', List.take_append_of_le_length (by rw [hls]; exact Nat.le_refl _), List.take_of_length_le (by rw [hls]; exact Nat.le_refl _)]
  have hone : ∀ x ∈ cells', x.oneCell' = true := by
    intro x hx
    rw [hcells', hfl'] at hx
    rcases List.mem_append.1 hx with hx | hx
    · obtain ⟨l, hl, hx⟩ := List.mem_flatten.1 hx
      obtain ⟨y, _, rfl⟩ := List.mem_map.1 hl
      exact h1 y x hx
    · exact b10 x (List.mem_of_mem_drop hx)
  have hput := put_row (es' := plainE enc d'.toList) (vals' := cells') hR hK
    (fun e he => by obtain ⟨x, _, rfl⟩ := List.mem_map.1 he; simp [hk]) (by rw [hlen, hyl]; exact Nat.le_refl _) (by rw [hyl]; exact b5) hcl
    (by rw [hyl, hct, plainE_flat]; exact RepL.of_v _ _ _) hone
  obtain ⟨hle1, hR1⟩ := hput
  -- the world behind the sort
  have hrow : (putRowK enc sz (Sort.ahead cx.w n) (cx.κ k) 0 d').heap = (cx.w.setRow (cx.κ k) cells'.toArray).heap := by
    apply Array.ext_getElem?
    intro i
    by_cases hi : i = cx.κ k
    · subst hi
      rw [setRow_heap _ _ _ _ _ _ b7]
      show ((cx.w.heap.modify (cx.κ k) _))[cx.κ k]? = _
      rw [Array.getElem?_modify, if_pos rfl, b7]
      simp only [Option.map_some, onCells]
      rw [putCells_list _ _ (by rw [hfs']; exact hge), hcells', hfs']
    · rw [setRow_other _ _ _ _ hi]
      show ((cx.w.heap.modify (cx.κ k) _))[i]? = _
      rw [Array.getElem?_modify, if_neg (fun h => hi h.symm)]
  obtain ⟨cx1, hcx1⟩ : ∃ cx1, cx1 = cx.put k (cx.w.setRow (cx.κ k) cells'.toArray) (.row t sz (plainE enc d'.toList)) := ⟨_, rfl⟩
  have hw1 : cx1.w = cx.w.setRow (cx.κ k) cells'.toArray := by rw [hcx1]; rfl
  rw [← hcx1] at hle1 hR1
  obtain ⟨W, hW⟩ : ∃ W, W = sortWorldK enc sz cx.w (cx.κ k) 0 n d' os := ⟨_, rfl⟩
  rw [← hW]
  have hWh : W.heap = cx1.w.heap ++ os := by rw [hW, hw1, ← hrow]; rfl
  have hb : Below cx1.w.heap.size cx1.w W := by
    refine ⟨?_, ?_, ?_, by rw [hWh]; simp, fun i hi => by rw [hWh, Array.getElem?_append, if_pos hi]⟩
    all_goals (rw [hW, hw1]; rfl)
  refine ⟨{ cx1 with w := W }, .tup [], rfl, hrel_ext hR1 hb, hle1.trans (le_of_ext hb.block), tup_nil_undef _ _, rfl, d'.toList, hperm, ?_, by rw [hcx1]; rfl⟩
  rw [List.pairwise_iff_getElem]
  intro i j hi hj hij
  have hi' : i < d'.size := by simpa using hi
  have hj' : j < d'.size := by simpa using hj
  have := hs i j (Nat.zero_le _) hij (by rw [← hsz]; exact hj')
  rw [getElem!_pos d' i hi', getElem!_pos d' j hj'] at this
  unfold ltOf at this
  simpa using this
end
end Go.Mu
