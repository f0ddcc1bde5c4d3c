/- What is live, as sets that grow (no program in sight but the memory they lie in). -/
import Derived.Test.YteoimifnfkpdeaaGreatFS5toCZP
import Derived.Test.YteoimifnfkpdeaaGreatFwJmptoRM4
import Derived.Test.YteoimifnfkpdeaaGreatRM1
set_option linter.unusedVariables false
set_option linter.unusedSimpArgs false
set_option maxHeartbeats 4000000
set_option maxRecDepth 100000
namespace Go.Proofs
open Go.Mu
def updS (S : Nat → List Int) (i : Nat) (s : List Int) : Nat → List Int := fun j => if j = i then s else S j
@[simp] theorem updS_same (S : Nat → List Int) (i : Nat) (s : List Int) : updS S i s i = s := by simp [updS]
theorem updS_ne (S : Nat → List Int) {i j : Nat} (s : List Int) (h : j ≠ i) : updS S i s j = S j := by simp [updS, h]
def tot (n : Nat) (S : Nat → List Int) : Nat := ((List.range (n + 1)).map fun j => (S j).length).sum
theorem sum_upd (f : Nat → Nat) (i d : Nat) : ∀ (n : Nat), i < n → ((List.range n).map fun j => if j = i then f j + d else f j).sum = ((List.range n).map f).sum + d
  | 0, h => by omega
  | n + 1, h => by
    rw [List.range_succ, List.map_append, List.map_append, List.sum_append, List.sum_append]
    by_cases e : i = n
    · subst e
      have : ((List.range i).map fun j => if j = i then f j + d else f j) = (List.range i).map f := List.map_congr_left fun j hj => by rw [if_neg]; have := List.mem_range.1 hj; omega
      rw [this]; simp; omega
    · rw [sum_upd f i d n (by omega)]
      simp only [List.map_cons, List.map_nil, List.sum_cons, List.sum_nil, if_neg (fun h : n = i => e h.symm)]; omega
theorem tot_add {n i : Nat} {S : Nat → List Int} {v : Int} (hi : i ≤ n) : tot n (updS S i (S i ++ [v])) = tot n S + 1 := by
  unfold tot
  have : (fun j => (updS S i (S i ++ [v]) j).length) = fun j => if j = i then (S j).length + 1 else (S j).length := by
    funext j
    by_cases e : j = i
    · subst e; simp
    · rw [updS_ne _ _ e, if_neg e]
  rw [this]
  exact sum_upd (fun j => (S j).length) i 1 (n + 1) (by omega)
theorem nodup_lenI : ∀ (n : Nat) (s : List Int), s.Nodup → (∀ v ∈ s, 0 ≤ v ∧ v < n) → s.length ≤ n
  | 0, s, _, h => by cases s with
    | nil => simp
    | cons x s => have := h x (List.mem_cons_self ..); omega
  | n + 1, s, hs, h => by
    by_cases hn : (n : Int) ∈ s
    · have h1 := nodup_lenI n (s.erase n) (hs.erase _) (fun j hj => by
        have hm := (hs.mem_erase_iff.1 hj)
        have := h j hm.2
        have := hm.1
        omega)
      rw [List.length_erase_of_mem hn] at h1
      omega
    · have := nodup_lenI n s hs (fun j hj => by have := h j hj; have : j ≠ (n : Int) := fun e => hn (e ▸ hj); omega)
      omega
structure GoodS (l : Linear) (S : Nat → List Int) : Prop where
  once : ∀ i, i ≤ l.code.length → (S i).Nodup
  live : ∀ i, i ≤ l.code.length → ∀ v ∈ S i, LiveAt l i v
  rets : ∀ v ∈ l.rets, v ∈ S l.code.length
def ClosedAt (l : Linear) (S : Nat → List Int) (i : Nat) (x : Line) : Prop := (∀ k ∈ nxt l i, ∀ v ∈ S k.toNat, v ∉ x.defs → v ∈ S i) ∧ ∀ v ∈ x.raw, v ∈ S i
theorem GoodS.add {l : Linear} {S : Nat → List Int} (g : GoodS l S) {i : Nat} {v : Int} (hi : i ≤ l.code.length) (hv : v ∉ S i) (hl : LiveAt l i v) : GoodS l (updS S i (S i ++ [v])) := by
  refine ⟨fun j hj => ?_, fun j hj w hw => ?_, fun w hw => ?_⟩
  · by_cases e : j = i
    · subst e
      rw [updS_same, List.nodup_append]
      exact ⟨g.once j hj, by simp, fun a ha b hb e => hv (by rw [List.mem_singleton] at hb; rw [← hb, ← e]; exact ha)⟩
    · rw [updS_ne _ _ e]; exact g.once j hj
  · by_cases e : j = i
    · subst e
      rw [updS_same] at hw
      rcases List.mem_append.1 hw with hw | hw
      · exact g.live j hj w hw
      · rw [List.mem_singleton] at hw; subst hw; exact hl
    · rw [updS_ne _ _ e] at hw; exact g.live j hj w hw
  · have := g.rets w hw
    by_cases e : l.code.length = i
    · subst e; rw [updS_same]; exact List.mem_append_left _ this
    · rw [updS_ne _ _ e]; exact this
theorem GoodS.tot_le {l : Linear} (ho : LinOk l) {S : Nat → List Int} (g : GoodS l S) : tot l.code.length S ≤ (l.code.length + 1) * l.vars.toNat := by
  have h1 : ∀ i, i ≤ l.code.length → (S i).length ≤ l.vars.toNat := fun i hi => nodup_lenI _ _ (g.once i hi) fun v hv => by
    have := (live_in ho (g.live i hi v hv)).1; omega
  have h2 : ∀ m, m ≤ l.code.length + 1 → ((List.range m).map fun j => (S j).length).sum ≤ m * l.vars.toNat := by
    intro m
    induction m with
    | zero => simp
    | succ m ih =>
      intro hm
      rw [List.range_succ, List.map_append, List.sum_append, Nat.succ_mul]
      have := h1 m (by omega)
      have := ih (by omega)
      simp; omega
  exact h2 _ (Nat.le_refl _)
theorem GoodS.all {l : Linear} (ho : LinOk l) {S : Nat → List Int} (g : GoodS l S) (hc : ∀ i x, l.code[i]? = some x → ClosedAt l S i x) {i : Nat} (hi : i ≤ l.code.length) (v : Int) : v ∈ S i ↔ LiveAt l i v := by
  refine ⟨g.live i hi v, fun h => ?_⟩
  refine live_closed (S := fun i v => v ∈ S i) g.rets (fun i x v hx hv => (hc i x hx).2 v hv) (fun i x k v hx hd hk hv => (hc i x hx).1 k hk v (by simpa using hv) hd) h
theorem GoodS.rise {l : Linear} (ho : LinOk l) {S : Nat → List Int} (g : GoodS l S) (hc : ∀ i x, l.code[i]? = some x → ClosedAt l S i x) {i : Nat} (hi : i ≤ l.code.length) : riseL (S i) = liveL l i :=
  (rise_eq (liveL_rise l i) fun v => (live_mem ho).trans (g.all ho hc hi v).symm).symm
theorem nxt_ne {l : Linear} (ho : LinOk l) {i : Nat} {k : Int} (hk : k ∈ nxt l i) : k ≠ (i : Int) := by
  have hin := nxt_in ho hk
  unfold nxt at hk
  rw [List.getElem?_eq_getElem hin.2.2] at hk
  have hx := List.getElem?_eq_getElem hin.2.2
  obtain ⟨x, hxe⟩ : ∃ x, x = l.code[i] := ⟨_, rfl⟩
  rw [← hxe] at hx hk
  have hw : x.kind = 3 ∨ x.kind = 4 → (whr l.code x.label : Int) ≠ i := fun h e => by
    have e' : whr l.code x.label = i := by omega
    have hj := ho.jump x (List.mem_of_getElem? hx) h
    have hl : isLab x.label (l.code[whr l.code x.label]'hj) = true := List.findIdx_getElem
    have : l.code[whr l.code x.label]'hj = x := by
      have q := List.getElem?_eq_getElem hj
      have q2 : l.code[whr l.code x.label]? = l.code[i]? := by rw [e']
      rw [q2, hx, Option.some.injEq] at q
      exact q.symm
    rw [this] at hl
    have := (isLab_iff.1 hl).1
    omega
  simp only at hk
  split at hk
  · rw [List.mem_singleton] at hk; omega
  · split at hk
    · rw [List.mem_singleton] at hk; rw [hk]; exact hw (by omega)
    · split at hk
      · rw [riseL_mem] at hk
        rcases List.mem_cons.1 hk with e | e
        · omega
        · rw [List.mem_singleton] at e; rw [e]; exact hw (by omega)
      · rw [List.mem_singleton] at hk; omega
def liveRow (p m : Nat) : List (List AV) := (List.range m).map fun j => [.hm (p + 1 + j)]
def Lv (P : List Blk) (n : Nat) (S : Nat → List Int) (L : List Blk) : List Blk := P ++ (.row 120 1 (liveRow P.length (n + 1)) :: ((List.range (n + 1)).map fun j => Blk.map (stand (S j))) ++ L)
theorem lv_row (P : List Blk) (n : Nat) (S : Nat → List Int) (L : List Blk) : (Lv P n S L)[P.length]? = some (.row 120 1 (liveRow P.length (n + 1))) := by unfold Lv; rw [List.getElem?_append_right (by omega)]; simp
theorem lv_old {P : List Blk} {i : Nat} {b : Blk} (h : P[i]? = some b) (n : Nat) (S : Nat → List Int) (L : List Blk) : (Lv P n S L)[i]? = some b := by unfold Lv; exact get_app_old h _
theorem lv_map (P : List Blk) {n j : Nat} (hj : j ≤ n) (S : Nat → List Int) (L : List Blk) : (Lv P n S L)[P.length + 1 + j]? = some (.map (stand (S j))) := by
  unfold Lv
  rw [List.getElem?_append_right (by omega), show P.length + 1 + j - P.length = j + 1 by omega, List.cons_append, List.getElem?_cons_succ, List.getElem?_append_left (by simp; omega), List.getElem?_map, List.getElem?_range (by omega)]; rfl
theorem lv_set (P : List Blk) {n j : Nat} (hj : j ≤ n) (S : Nat → List Int) (L : List Blk) (s : List Int) : (Lv P n S L).set (P.length + 1 + j) (.map (stand s)) = Lv P n (updS S j s) L := by
  unfold Lv
  rw [List.set_append, if_neg (by omega), show P.length + 1 + j - P.length = j + 1 by omega, List.cons_append, List.set_cons_succ, List.cons_append, List.set_append, if_pos (by simp; omega)]
  congr 3
  apply List.ext_getElem?
  intro i
  rw [List.getElem?_set]
  by_cases h : i < n + 1
  · by_cases e : j = i
    · subst e
      rw [if_pos rfl, if_pos (by simp; omega), List.getElem?_map, List.getElem?_range h]; simp
    · rw [if_neg e, List.getElem?_map, List.getElem?_map, List.getElem?_range h]
      simp only [Option.map_some]
      rw [updS_ne _ _ (fun h => e h.symm)]
  · rw [List.getElem?_eq_none (l := (List.range (n + 1)).map fun j_1 => Blk.map (stand (updS S j s j_1))) (by simp; omega)]
    by_cases e : j = i
    · subst e; omega
    · rw [if_neg e, List.getElem?_eq_none (by simp; omega)]
theorem lv_app (P : List Blk) (n : Nat) (S : Nat → List Int) (L X : List Blk) : Lv P n S L ++ X = Lv P n S (L ++ X) := by unfold Lv; simp [List.append_assoc]
theorem lv_len (P : List Blk) (n : Nat) (S : Nat → List Int) (L : List Blk) : (Lv P n S L).length = P.length + 1 + (n + 1) + L.length := by unfold Lv; simp; omega
theorem lv_junk (P : List Blk) (n : Nat) (S : Nat → List Int) (L X : List Blk) (b : Blk) : (Lv P n S (L ++ b :: X))[P.length + 1 + (n + 1) + L.length]? = some b := by
  rw [← lv_app, List.getElem?_append_right (by rw [lv_len]; omega), lv_len]; simp
theorem lv_junkset (P : List Blk) (n : Nat) (S : Nat → List Int) (L X : List Blk) (b c : Blk) : (Lv P n S (L ++ b :: X)).set (P.length + 1 + (n + 1) + L.length) c = Lv P n S (L ++ c :: X) := by
  rw [← lv_app, ← lv_app, List.set_append, if_neg (by rw [lv_len]; omega), lv_len]; simp
theorem liveRow_get {p m j : Nat} (h : j < m) : (liveRow p m)[j]? = some [.hm (p + 1 + j)] := by unfold liveRow; rw [List.getElem?_map, List.getElem?_range h]; rfl
theorem liveRow_len (p m : Nat) : (liveRow p m).length = m := by simp [liveRow]
theorem midx_stand (v : Int) : ∀ (s : List Int), v ∉ s → midx (.int .i64) (.int .i64 v) (stand s) = s.length
  | [], _ => rfl
  | a :: s, h => by
    simp only [List.mem_cons, not_or] at h
    have e : (v == a) = false := by simp [h.1]
    have : stand (a :: s) = (.int .i64 a, .agg [Bo true]) :: stand s := rfl
    rw [this, midx, sameNow_i64, e]
    simp only [midx_stand v s h.2]; rfl
theorem stand_ent (v : Int) : ∀ (s : List Int), v ∉ s → mset (.int .i64) (.int .i64 v) (.agg [Bo false]) (stand s) = some (stand s ++ [(.int .i64 v, .agg [Bo false])])
  | [], _ => rfl
  | a :: s, h => by
    simp only [List.mem_cons, not_or] at h
    have e : (v == a) = false := by simp [h.1]
    have : stand (a :: s) = (.int .i64 a, .agg [Bo true]) :: stand s := rfl
    rw [this, mset, sameNow_i64, e]
    simp only [stand_ent v s h.2]; rfl
theorem stand_len (s : List Int) : (stand s).length = s.length := by simp [stand]
theorem stand_fin (v : Int) (s : List Int) : (stand s ++ [(Value.int .i64 v, AV.agg [Bo false])]).modify s.length (fun p => (p.1, AV.agg [Bo true])) = stand (s ++ [v]) := by
  apply List.ext_getElem?
  intro j
  rw [List.getElem?_modify]
  have hs := stand_len s
  by_cases h : j < s.length
  · have hne : s.length ≠ j := by omega
    rw [List.getElem?_append_left (by omega)]
    simp [stand, List.getElem?_append_left h, hne]
    rw [List.getElem?_append_left (by simpa using h)]; simp
  · rw [List.getElem?_append_right (by omega), hs]
    by_cases e : j = s.length
    · subst e; simp [stand]
    · rw [List.getElem?_eq_none (l := [(Value.int .i64 v, AV.agg [Bo false])]) (by simp; omega), List.getElem?_eq_none (by simp [stand]; omega)]; rfl
end Go.Proofs
namespace Go.Proofs
open Go.Mu
theorem isorted_give (t : List Int) (ht : t.Nodup) (hl : t.length ≤ 2^40) (km b : Nat) (H : List Blk) (hb : H[b]? = some (.box 120 [.hm km])) (hk : H[km]? = some (.map (stand t))) :
    ACalls Tryz.prog 45 [.fn (.func 81) [] [.bp b 0]] H (fun e H' => e = .ret (Int.sl (riseL t)) ∧ H' = H) := by
  refine acalls_under fun hu _ => acalls_weakE (acalls_tidy ((isorted_ok t km b hl H hb hk).mono ?_))
  rintro e M ⟨ns, hp, rfl, rfl⟩
  have e1 : sortI ns = riseL t := by
    rw [sort_rise (hp.nodup_iff.2 ht)]
    exact sorted_ext (riseL_rise _) (riseL_rise _) fun x => by rw [riseL_mem, riseL_mem]; exact hp.mem_iff
  rw [e1]
  have o : OwnI H (H ++ [intB (riseL t)]) (if riseL t = [] then none else some H.length) (riseL t) := by
    by_cases he : riseL t = []
    · rw [if_pos he, he]; exact .nil0 _ _ _ _
    · rw [if_neg he]
      exact ⟨⟨_, rfl⟩, fun k hk => by (cases hk; simp [ownB, he]), fun h => by (cases h), fun k hk => by cases hk; exact Nat.le_refl _⟩
  have := tidy_rowA (n := (riseL t).length) (R := fun e H' => e = .ret (Int.sl (riseL t)) ∧ H' = H) hu o (int_frzB _) (map_len _).symm ⟨rfl, rfl⟩
  have e2 : intS H.length (riseL t) = hrow (if riseL t = [] then none else some H.length) (riseL t).length := by
    by_cases he : riseL t = []
    · rw [if_pos he, he]; rfl
    · rw [if_neg he]; simp [ownS, he, hrow]
  rw [e2]; exact this
noncomputable def lvL (l : Linear) : List (List Int) := (List.range l.code.length).map (liveL l)
abbrev Ints.sl (l : List (List Int)) : AV := .vs 1 (l.map fun x => [Int.sl x])
theorem stand_set_in (n : Int) : ∀ (ls : List Int), n ∈ ls → mset (.int .i64) (.int .i64 n) (.agg [Bo true]) (stand ls) = some (stand ls)
  | [], h => by simp at h
  | a :: ls, h => by
    have : stand (a :: ls) = (.int .i64 a, .agg [Bo true]) :: stand ls := rfl
    rw [this, mset, sameNow_i64]
    by_cases e : n = a
    · subst e; simp
    · have e' : (n == a) = false := by simp [e]
      rw [e']
      rcases List.mem_cons.1 h with h | h
      · exact absurd h e
      · simp only [stand_set_in n ls h]; rfl
def putS (v : Int) (s : List Int) : List Int := if v ∈ s then s else s ++ [v]
theorem stand_put (v : Int) (s : List Int) : mset (.int .i64) (.int .i64 v) (.agg [Bo true]) (stand s) = some (stand (putS v s)) := by
  unfold putS
  by_cases h : v ∈ s
  · rw [if_pos h]; exact stand_set_in v s h
  · rw [if_neg h]; exact stand_set v s h
theorem putS_nodup {v : Int} {s : List Int} (h : s.Nodup) : (putS v s).Nodup := by
  unfold putS
  split
  · exact h
  · rename_i hv
    rw [List.nodup_append]
    exact ⟨h, by simp, fun a ha b hb e => hv (by rw [List.mem_singleton] at hb; rw [← hb, ← e]; exact ha)⟩
theorem putS_mem {v w : Int} {s : List Int} : w ∈ putS v s ↔ w ∈ s ∨ w = v := by
  unfold putS
  split
  · rename_i h; exact ⟨.inl, fun q => q.elim id (fun e => e ▸ h)⟩
  · simp
theorem lv_es (P : List Blk) {n j : Nat} (hj : j ≤ n) (S : Nat → List Int) (L : List Blk) : mapEs (Lv P n S L) (.hm (P.length + 1 + j)) = some (stand (S j)) := by simp only [mapEs, lv_map P hj]
theorem lv_cells (P : List Blk) {n j : Nat} (hj : j ≤ n) (S : Nat → List Int) (L : List Blk) : cellsAt (Lv P n S L) (.rp P.length (n + 1) j 0) = some [.hm (P.length + 1 + j)] := by simp [cellsAt, lv_row, liveRow_len, liveRow_get (show j < n + 1 by omega)]
def RetI (l : Linear) (P : List Blk) (n i : Nat) (M : List Blk) : Prop := ∃ S, M = Lv P n S [] ∧ (∀ j, j ≤ n → (S j).Nodup) ∧ (∀ j, j ≤ n → ∀ v ∈ S j, j = n ∧ v ∈ l.rets) ∧ ∀ v ∈ l.rets.take i, v ∈ S n
def LiveI (l : Linear) (P : List Blk) (n : Nat) (S0 : Nat → List Int) (i : Nat) (f10 : AV) (M : List Blk) : Prop := ∃ S L c, M = Lv P n S L ∧ GoodS l S ∧ tot n S0 ≤ tot n S ∧ (c = true → tot n S0 < tot n S) ∧ f10 = Bo c ∧ (c = false → ∀ j x, i ≤ j → l.code[j]? = some x → ClosedAt l S j x)
def StI (l : Linear) (P : List Blk) (n : Nat) (S0 S1 : Nat → List Int) (c1 : Bool) (C : Prop) (f10 : AV) (M : List Blk) : Prop := ∃ S L c, M = Lv P n S L ∧ GoodS l S ∧ tot n S0 ≤ tot n S ∧ (c = true → tot n S0 < tot n S) ∧ f10 = Bo c ∧ (c = false → c1 = false ∧ S = S1 ∧ C)
theorem StI.weak {l : Linear} {P : List Blk} {n : Nat} {S0 S1 : Nat → List Int} {c1 : Bool} {C C' : Prop} {f10 : AV} {M : List Blk} (h : StI l P n S0 S1 c1 C f10 M) (hC : C → C') : StI l P n S0 S1 c1 C' f10 M := by
  obtain ⟨S, L, c, h1, h2, h3, h4, h5, h6⟩ := h
  exact ⟨S, L, c, h1, h2, h3, h4, h5, fun hc => let ⟨a, b, d⟩ := h6 hc; ⟨a, b, hC d⟩⟩
def KsI (l : Linear) (i : Nat) (x : Line) (S1 : Nat → List Int) (q : Nat) : Prop := ∀ k ∈ (nxt l i).take q, ∀ v ∈ S1 k.toNat, v ∉ x.defs → v ∈ S1 i
def MapI (l : Linear) (P : List Blk) (n : Nat) (S0 S1 : Nat → List Int) (c1 : Bool) (C : Prop) (i k : Nat) (x : Line) (T : List Int) (L : List Blk) (seen : List Nat) (f10 : AV) (M : List Blk) : Prop := ∃ S c, M = Lv P n S (L ++ [.it (some (P.length + 1 + k)) T.length seen]) ∧ S k = T ∧ GoodS l S ∧ tot n S0 ≤ tot n S ∧ (c = true → tot n S0 < tot n S) ∧ f10 = Bo c ∧ (c = false → c1 = false ∧ S = S1 ∧ C ∧ ∀ j ∈ seen, ∀ v, T[j]? = some v → v ∉ x.defs → v ∈ S1 i)
theorem any_has (l : List Int) (v : Int) : (l.any fun x => decide (v = x)) = decide (v ∈ l) := by
  rw [Bool.eq_iff_iff]; simp [List.any_eq_true]
abbrev OwnLs (B M : List Blk) (h : Option Nat) (l : List (List Int)) : Prop := Own 22 1 B M h (l.map fun x => [Int.sl x])
theorem ints_frzB (l : List (List Int)) : (l.map fun x => [Int.sl x]).flatten.all AV.frzB = true := by
  induction l with
  | nil => rfl
  | cons x l ih => rw [List.map_cons, List.flatten_cons, List.all_append, ih]; simp [AV.frzB]
theorem live_ok (l : Linear) (hs : l.Sm) (hok : l.ok = true) (H : List Blk) : ACalls Tryz.prog 15 [.agg l.cells] H (fun e H' => e = .ret (.tup [Ints.sl (lvL l), I 0]) ∧ H' = H) := by
  have ho := ((ok_iff l).1 hok).1
  refine acalls_under fun hu _ => acalls_weakE (acalls_tidy (acalls_of_awp Tryz.func15 rfl (by kernel_rfl) ?_))
  have c1 := linear_ok l (by have := hs.params; omega) (by have := hs.rets; omega) (by have := hs.code; omega)
  have c2 := where_ok l (by have := hs.code; omega)
  simp only [Linear.cells, hok] at c1 c2
  obtain ⟨B, hB⟩ : ∃ B, B = H ++ [.box 25 l.cells] := ⟨_, rfl⟩
  have hb : B[H.length]? = some (.box 25 l.cells) := by rw [hB]; simp
  simp only [Linear.cells] at hb
  replace hB := Hid.mk hB
  have hu := Hid.mk hu
  refine awp_cut (fun _ => false) (fun _ => none) (fun f H' => B = H' ∧ f 1 = .bp H.length 0) (by kernel_rfl) ?_ ?_
  · simp -dsimp [hB.out]
  rintro g _ ⟨rfl, g1⟩
  refine awp_scope_r ?_
  refine awp_cut (fun _ => false) (fun _ => none) (fun f H' => B = H' ∧ f 1 = .bp H.length 0) (by kernel_rfl) ?_ ?_
  · simp -dsimp [g1, hb]
    refine acallsW_det (c1 _) ?_
    simp -dsimp [g1]
  clear g g1
  rintro g _ ⟨rfl, g1⟩
  refine awp_cut (fun _ => false) (fun _ => none) (fun f M => f 1 = .bp H.length 0 ∧ f 4 = .hm (B.length + 1) ∧ AtR l B (B.length + 1) M) (by kernel_rfl) ?_ ?_
  · simp -dsimp [g1, hb]
    refine acallsW_of (c2 _) ?_
    rintro e M ⟨rfl, hM⟩
    simp -dsimp [g1]
    exact hM
  clear g g1
  rintro g P ⟨g1, g4, ⟨L0, hP⟩, hnew, hm⟩
  have hbP : P[H.length]? = some (.box 25 [I l.vars, Int.sl l.params, Int.sl l.rets, I l.frame, Line.sl l.code]) := by rw [hP]; exact get_app_old hb _
  obtain ⟨a, ha⟩ : ∃ a, a = B.length + 1 := ⟨_, rfl⟩
  rw [← ha] at g4 hm
  replace hP := Hid.mk hP
  clear c1 c2 hb hnew
  have hn := hs.code
  have hrl := hs.rets
  obtain ⟨n, hnl⟩ : ∃ n, n = l.code.length := ⟨_, rfl⟩
  refine awp_cut (fun _ => false) (fun _ => none) (fun f M => P = M ∧ f 1 = .bp H.length 0 ∧ f 4 = .hm a ∧ f 5 = I n) (by kernel_rfl) ?_ ?_
  · simp -dsimp [g1, g4, hbP, hnl]
  clear g g1 g4
  rintro g _ ⟨rfl, g1, g4, g5⟩
  refine awp_cut (fun _ => false) (fun _ => none) (fun f M => P ++ [.row 120 1 (List.replicate (n + 1) [.v (.map none)])] = M ∧ f 1 = .bp H.length 0 ∧ f 4 = .hm a ∧ f 5 = I n ∧ f 6 = .hs P.length 0 (n + 1) (n + 1)) (by kernel_rfl) ?_ ?_
  · have hw : IntKind.i64.wrap ((n : Int) + 1) = ((n + 1 : Nat) : Int) := wrapS (by omega)
    simp -dsimp [g1, g4, g5, hw]
    have ht : ((n : Int) + 1).toNat = n + 1 := by omega
    refine ⟨⟨by omega, by omega, by omega⟩, ?_⟩
    simp -dsimp [g1, g4, g5, hw, ht]
  clear g g1 g4 g5
  rintro g _ ⟨rfl, g1, g4, g5, g6⟩
  have hn' : n ≤ 2^38 := by omega
  have hn1 := Hid.mk hn
  have hn2 := Hid.mk hnl
  -- each line's set
  refine awp_cut (fun _ => false) (fun _ => none) (fun f M => M = Lv P n (fun _ => []) [] ∧ f 1 = .bp H.length 0 ∧ f 4 = .hm a ∧ f 5 = I n ∧ f 6 = .hs P.length 0 (n + 1) (n + 1)) (by kernel_rfl) ?_ ?_
  · obtain ⟨Rw, hRw⟩ : ∃ Rw : Nat → List (List AV), ∀ i, Rw i = (List.range i).map (fun j => [.hm (P.length + 1 + j)]) ++ List.replicate (n + 1 - i) [.v (.map none)] := ⟨_, fun _ => rfl⟩
    have Rl : ∀ i, i ≤ n + 1 → (Rw i).length = n + 1 := fun i hi => by rw [hRw]; simp; omega
    have Rg : ∀ i, i < n + 1 → (Rw i)[i]? = some [.v (.map none)] := fun i hi => by
      rw [hRw, List.getElem?_append_right (by simp), List.length_map, List.length_range, Nat.sub_self, List.getElem?_replicate, if_pos (by omega)]
    have Rs : ∀ i, i < n + 1 → (Rw i).set i [.hm (P.length + 1 + i)] = Rw (i + 1) := fun i hi => by
      rw [hRw, hRw, List.set_append, if_neg (by simp), List.length_map, List.length_range, Nat.sub_self, show n + 1 - i = (n + 1 - (i + 1)) + 1 by omega, List.replicate_succ, List.set_cons_zero, List.range_succ, List.map_append]
      simp
    obtain ⟨G, hG⟩ : ∃ G : Nat → List Blk, ∀ i, G i = P ++ .row 120 1 (Rw i) :: List.replicate i (Blk.map []) := ⟨_, fun _ => rfl⟩
    have G0 : P ++ [.row 120 1 (List.replicate (n + 1) [.v (.map none)])] = G 0 := by rw [hG, hRw]; simp
    have Gr : ∀ i L, (G i ++ L)[P.length]? = some (.row 120 1 (Rw i)) := fun i L => by rw [hG]; simp
    have Gr0 : ∀ i, (G i)[P.length]? = some (.row 120 1 (Rw i)) := fun i => by rw [hG]; simp
    have Gs : ∀ i X, (G i ++ [Blk.map []]).set P.length (.row 120 1 X) = P ++ .row 120 1 X :: List.replicate (i + 1) (Blk.map []) := fun i X => by
      rw [hG, List.append_assoc, List.set_append, if_neg (by omega), Nat.sub_self, List.cons_append, List.set_cons_zero, List.replicate_succ']
    have Gl : ∀ i, (G i).length = P.length + 1 + i := fun i => by rw [hG]; simp; omega
    have Gn : G (n + 1) = Lv P n (fun _ => []) [] := by
      rw [hG, hRw]; unfold Lv liveRow
      simp only [Nat.sub_self, List.replicate_zero, List.append_nil]
      congr 2
      rw [show (fun j : Nat => Blk.map (stand [])) = fun _ => Blk.map [] from rfl, List.map_const']; simp
    rw [← Gn, G0]
    clear hRw
    have hG := Hid.mk hG
    have Gn := Hid.mk Gn
    have R0 := Rl 0 (by omega)
    simp -dsimp [g1, g4, g5, g6, Gr0, R0]
    have Rl := Hid.mk Rl
    refine loop_rule (hn := fun _ => false) (od := fun _ => none) (fun (i : Nat) f M => M = G i ∧ f 1 = .bp H.length 0 ∧ f 4 = .hm a ∧ f 5 = I n ∧ f 6 = .hs P.length 0 (n + 1) (n + 1) ∧ f 33 = I ((n + 1 : Nat) : Int) ∧ f 34 = I i ∧ i ≤ n + 1) (fun i => n + 1 - i) (by kernel_rfl) 0 (by simp [g1, g4, g5, g6]) ?_
    clear g g1 g4 g5 g6
    rintro i g _ ⟨rfl, g1, g4, g5, g6, g33, g34, hi⟩
    have hRi := Rl.out i hi
    simp -dsimp [g33, g34]
    refine condVW_introD (fun hlt => ?_) (fun hlt => ?_)
    · have hlt' : i < n + 1 := by omega
      simp -dsimp [g1, g4, g5, g6, g33, g34, Gr, hRi, Gl, Gs, Rg i hlt', Rs i hlt']
      refine ⟨by omega, ?_⟩
      simp -dsimp [g1, g4, g5, g6, g33, g34, Gr, hRi, Gl, Gs, Rg i hlt', Rs i hlt']
      have hast := astore_one (x := .hm (P.length + 1 + i)) (Gr i [Blk.map []]) hRi (Rg i hlt')
      simp -dsimp [g1, g4, g5, g6, g33, g34, hast, Gs, Rs i hlt']
      exact ⟨i + 1, by omega, by rw [hG.out], wrapS (by omega), by omega⟩
    · simp -dsimp [g1, g4, g5, g6]
      have : i = n + 1 := by omega
      rw [this, Gn.out]
  clear g g1 g4 g5 g6
  rintro g _ ⟨rfl, g1, g4, g5, g6⟩
  -- what is told at the end
  have lr := fun S L => lv_row P n S L
  have lb := fun S L => lv_old hbP n S L
  have lm := fun S L => lv_old hm n S L
  have rl := liveRow_len P.length (n + 1)
  refine awp_cut (fun _ => false) (fun _ => none) (fun f M => (∃ S, M = Lv P n S [] ∧ GoodS l S) ∧ f 1 = .bp H.length 0 ∧ f 4 = .hm a ∧ f 5 = I n ∧ f 6 = .hs P.length 0 (n + 1) (n + 1)) (by kernel_rfl) ?_ ?_
  · simp -dsimp [g1, g4, g5, g6, lb]
    refine loop_rule (hn := fun _ => false) (od := fun _ => none) (fun (i : Nat) f M => RetI l P n i M ∧ f 1 = .bp H.length 0 ∧ f 4 = .hm a ∧ f 5 = I n ∧ f 6 = .hs P.length 0 (n + 1) (n + 1) ∧ f 43 = Int.sl l.rets ∧ f 44 = I l.rets.length ∧ f 45 = I i ∧ i ≤ l.rets.length) (fun i => l.rets.length - i) (by kernel_rfl) 0 ⟨⟨_, rfl, fun _ _ => List.nodup_nil, fun _ _ _ h => by simp at h, fun _ h => by simp at h⟩, by simp [g1, g4, g5, g6]⟩ ?_
    clear g g1 g4 g5 g6
    rintro i g _ ⟨⟨S, rfl, s1, s2, s3⟩, g1, g4, g5, g6, g43, g44, g45, hi⟩
    simp -dsimp [g43, g44, g45]
    refine condVW_introD (fun hlt => ?_) (fun hlt => ?_)
    · have hlt' : i < l.rets.length := by omega
      have gv := List.getElem?_eq_getElem hlt'
      obtain ⟨v, hv⟩ : ∃ v, v = l.rets[i] := ⟨_, rfl⟩
      rw [← hv] at gv
      have lc := fun S L => lv_cells P (Nat.le_refl n) S L
      simp -dsimp [g1, g4, g5, g6, g43, g44, g45, gv, lr, rl]
      refine ⟨by omega, ?_⟩
      have e1 := lv_es P (Nat.le_refl n) S []
      have e2 := stand_put v (S n)
      have e3 := lv_set P (Nat.le_refl n) S [] (putS v (S n))
      simp -dsimp [g1, g4, g5, g6, g43, g44, g45, gv, lc, e1, e2, e3]
      refine ⟨i + 1, by omega, ⟨_, rfl, fun j hj => ?_, fun j hj w hw => ?_, fun w hw => ?_⟩, wrapS (by omega), by omega⟩
      · by_cases e : j = n
        · subst e; rw [updS_same]; exact putS_nodup (s1 j hj)
        · rw [updS_ne _ _ e]; exact s1 j hj
      · by_cases e : j = n
        · rw [e, updS_same, putS_mem] at hw
          rcases hw with hw | rfl
          · exact ⟨e, (s2 n (Nat.le_refl _) w hw).2⟩
          · exact ⟨e, List.mem_of_getElem? gv⟩
        · rw [updS_ne _ _ e] at hw; exact s2 j hj w hw
      · rw [updS_same, putS_mem]
        rw [List.take_add_one, gv] at hw
        rcases List.mem_append.1 hw with hw | hw
        · exact .inl (s3 w hw)
        · right; simpa using hw
    · simp -dsimp [g1, g4, g5, g6]
      refine ⟨S, rfl, fun j hj => s1 j (by have := hn2.out; omega), fun j hj w hw => ?_, fun w hw => ?_⟩
      · obtain ⟨e, hr⟩ := s2 j (by have := hn2.out; omega) w hw
        rw [e, hn2.out]; exact .told hr
      · rw [← hn2.out]; exact s3 w (by rw [List.take_of_length_le (by omega)]; exact hw)
  clear g g1 g4 g5 g6
  rintro g _ ⟨⟨S0, rfl, hS0⟩, g1, g4, g5, g6⟩
  refine awp_cut (fun _ => false) (fun _ => none) (fun f M => Lv P n S0 [] = M ∧ f 1 = .bp H.length 0 ∧ f 4 = .hm a ∧ f 5 = I n ∧ f 6 = .hs P.length 0 (n + 1) (n + 1)) (by kernel_rfl) ?_ ?_
  · simp -dsimp [g1, g4, g5, g6]
  clear g g1 g4 g5 g6
  rintro g _ ⟨rfl, g1, g4, g5, g6⟩
  -- rounds
  refine awp_cutA (fun f M => (∃ S L, M = Lv P n S L ∧ GoodS l S ∧ ∀ i x, l.code[i]? = some x → ClosedAt l S i x) ∧ f 1 = .bp H.length 0 ∧ f 5 = I n ∧ f 6 = .hs P.length 0 (n + 1) (n + 1)) ?_ ?_
  · refine awp_block ?_
    refine awp_loopI (fun (k : Nat) f M => (∃ S L, M = Lv P n S L ∧ GoodS l S ∧ tot n S + k = (n + 1) * l.vars.toNat) ∧ f 1 = .bp H.length 0 ∧ f 4 = .hm a ∧ f 5 = I n ∧ f 6 = .hs P.length 0 (n + 1) (n + 1)) (fun k => k) ((n + 1) * l.vars.toNat - tot n S0)
      ⟨⟨S0, [], rfl, hS0, by have := hS0.tot_le ho; rw [← hn2.out] at this; omega⟩, g1, g4, g5, g6⟩ ?_
    clear g g1 g4 g5 g6 hS0 S0
    rintro k g _ ⟨⟨S0, L0, rfl, hS0, hk⟩, g1, g4, g5, g6⟩
    refine awp_block ?_
    refine awp_cut (fun _ => false) (fun _ => none) (fun f M => Lv P n S0 L0 = M ∧ f 1 = .bp H.length 0 ∧ f 4 = .hm a ∧ f 5 = I n ∧ f 6 = .hs P.length 0 (n + 1) (n + 1) ∧ f 10 = Bo false) (by kernel_rfl) ?_ ?_
    · simp -dsimp [g1, g4, g5, g6]
    clear g g1 g4 g5 g6
    rintro g _ ⟨rfl, g1, g4, g5, g6, g10⟩
    -- one round
    refine awp_cutA (fun f M => LiveI l P n S0 0 (f 10) M ∧ f 1 = .bp H.length 0 ∧ f 4 = .hm a ∧ f 5 = I n ∧ f 6 = .hs P.length 0 (n + 1) (n + 1)) ?_ ?_
    · refine awp_cut (fun _ => false) (fun _ => none) (fun f M => Lv P n S0 L0 = M ∧ f 1 = .bp H.length 0 ∧ f 4 = .hm a ∧ f 5 = I n ∧ f 6 = .hs P.length 0 (n + 1) (n + 1) ∧ f 10 = Bo false ∧ f 11 = I ((n : Int) - 1)) (by kernel_rfl) ?_ ?_
      · have hw : IntKind.i64.wrap ((n : Int) - 1) = (n : Int) - 1 := by unfold IntKind.wrap; simp [IntKind.bits, IntKind.signed]; omega
        simp -dsimp [g1, g4, g5, g6, g10, hw]
      clear g g1 g4 g5 g6 g10
      rintro g _ ⟨rfl, g1, g4, g5, g6, g10, g11⟩
      refine awp_block ?_
      refine awp_loopI (fun (m : Nat) f M => LiveI l P n S0 m (f 10) M ∧ f 1 = .bp H.length 0 ∧ f 4 = .hm a ∧ f 5 = I n ∧ f 6 = .hs P.length 0 (n + 1) (n + 1) ∧ f 11 = I ((m : Int) - 1) ∧ m ≤ n) (fun m => m) n
        ⟨⟨S0, L0, false, rfl, hS0, Nat.le_refl _, fun h => (by cases h), g10, fun _ j x hj hx => by have := (List.getElem?_eq_some_iff.1 hx).1; have := hn2.out; omega⟩, g1, g4, g5, g6, g11, Nat.le_refl _⟩ ?_
      clear g g1 g4 g5 g6 g10 g11 hS0 hk L0
      rintro m g _ ⟨⟨S1, L1, c1, rfl, hS1, ht1, hc1, g10, hcl1⟩, g1, g4, g5, g6, g11, hm1⟩
      refine awp_cut (fun _ => false) (fun _ => none) (fun f M => Lv P n S1 L1 = M ∧ f 1 = .bp H.length 0 ∧ f 4 = .hm a ∧ f 5 = I n ∧ f 6 = .hs P.length 0 (n + 1) (n + 1) ∧ f 10 = Bo c1 ∧ f 11 = I ((m : Int) - 1) ∧ 0 < m) (by kernel_rfl) ?_ ?_
      · simp -dsimp [g1, g4, g5, g6, g10, g11]
        refine condVW_introD (fun hlt => ?_) (fun hlt => ?_)
        · simp -dsimp [g1, g4, g5, g6, g10, g11]
          omega
        · simp -dsimp [g1, g4, g5, g6, g10, g11]
          obtain rfl : m = 0 := by omega
          exact ⟨S1, L1, c1, rfl, hS1, ht1, hc1, rfl, hcl1⟩
      clear g g1 g4 g5 g6 g10 g11
      rintro g _ ⟨rfl, g1, g4, g5, g6, g10, g11, hm0⟩
      obtain ⟨i, rfl⟩ : ∃ i, m = i + 1 := ⟨m - 1, by omega⟩
      have ei : ((i + 1 : Nat) : Int) - 1 = (i : Int) := by omega
      rw [ei] at g11
      obtain ⟨x, hx⟩ : ∃ x, l.code[i]? = some x := ⟨_, List.getElem?_eq_getElem (by omega)⟩
      have hin : i < l.code.length := (List.getElem?_eq_some_iff.1 hx).1
      have hdn : i ≤ n := by omega
      refine awp_cutA (fun f M => StI l P n S0 S1 c1 (ClosedAt l S1 i x) (f 10) M ∧ f 1 = .bp H.length 0 ∧ f 4 = .hm a ∧ f 5 = I n ∧ f 6 = .hs P.length 0 (n + 1) (n + 1) ∧ f 11 = I i) ?_ ?_
      rotate_left
      · clear g g1 g4 g5 g6 g10 g11
        rintro g M ⟨⟨S, L, c, rfl, hS, ht, hc, g10, hcl⟩, g1, g4, g5, g6, g11⟩
        have hw : IntKind.i64.wrap ((i : Int) - 1) = (i : Int) - 1 := wrapI (by omega) (by omega)
        refine awp_all (fun _ => false) (fun _ => none) (by kernel_rfl) ?_
        simp -dsimp [g1, g4, g5, g6, g10, g11, hw]
        refine ⟨i, by omega, ⟨S, L, c, rfl, hS, ht, hc, rfl, fun h j y hj hy => ?_⟩, rfl, by omega⟩
        obtain ⟨q1, q2, q3⟩ := hcl h
        by_cases e : j = i
        · subst e
          rw [hx, Option.some.injEq] at hy
          rw [q2, ← hy]; exact q3
        · rw [q2]; exact hcl1 q1 j y (by omega) hy
      refine awp_block ?_
      have cu := fun H => uses_ok x H
      simp only [Line.cells] at cu
      refine awp_cut (fun _ => false) (fun _ => none) (fun f M => Lv P n S1 L1 = M ∧ f 1 = .bp H.length 0 ∧ f 4 = .hm a ∧ f 5 = I n ∧ f 6 = .hs P.length 0 (n + 1) (n + 1) ∧ f 10 = Bo c1 ∧ f 11 = I i ∧ f 12 = Int.sl x.uses ∧ f 13 = Int.sl x.defs) (by kernel_rfl) ?_ ?_
      · simp -dsimp [g1, g4, g5, g6, g10, g11, lb, hx]
        refine acallsW_det (cu _) ?_
        simp -dsimp [g1, g4, g5, g6, g10, g11, lb, hx]
      clear g g1 g4 g5 g6 g10 g11
      rintro g _ ⟨rfl, g1, g4, g5, g6, g10, g11, g12, g13⟩
      have ul := uses_len x
      have dl := defs_len x
      have cn := fun H h => next_ok l ho (by omega) i a hin H h
      simp only [Linear.cells] at cn
      refine awp_cutA (fun f M => StI l P n S0 S1 c1 (KsI l i x S1 (nxt l i).length) (f 10) M ∧ f 1 = .bp H.length 0 ∧ f 4 = .hm a ∧ f 5 = I n ∧ f 6 = .hs P.length 0 (n + 1) (n + 1) ∧ f 11 = I i ∧ f 12 = Int.sl x.uses) ?_ ?_
      · refine awp_cut (fun _ => false) (fun _ => none) (fun f M => Lv P n S1 L1 = M ∧ f 1 = .bp H.length 0 ∧ f 4 = .hm a ∧ f 5 = I n ∧ f 6 = .hs P.length 0 (n + 1) (n + 1) ∧ f 10 = Bo c1 ∧ f 11 = I i ∧ f 12 = Int.sl x.uses ∧ f 13 = Int.sl x.defs ∧ f 74 = Int.sl (nxt l i) ∧ f 75 = I (nxt l i).length ∧ f 76 = I 0) (by kernel_rfl) ?_ ?_
        · simp -dsimp [g1, g4, g5, g6, g10, g11, g12, g13, lb]
          refine acallsW_det (cn _ (lm _ _)) ?_
          simp -dsimp [g1, g4, g5, g6, g10, g11, g12, g13]
        clear g g1 g4 g5 g6 g10 g11 g12 g13
        rintro g _ ⟨rfl, g1, g4, g5, g6, g10, g11, g12, g13, g74, g75, g76⟩
        refine awp_block ?_
        refine awp_loopI (fun (q : Nat) f M => StI l P n S0 S1 c1 (KsI l i x S1 q) (f 10) M ∧ f 1 = .bp H.length 0 ∧ f 4 = .hm a ∧ f 5 = I n ∧ f 6 = .hs P.length 0 (n + 1) (n + 1) ∧ f 11 = I i ∧ f 12 = Int.sl x.uses ∧ f 13 = Int.sl x.defs ∧ f 74 = Int.sl (nxt l i) ∧ f 75 = I (nxt l i).length ∧ f 76 = I q ∧ q ≤ (nxt l i).length) (fun q => (nxt l i).length - q) 0
          ⟨⟨S1, L1, c1, rfl, hS1, ht1, hc1, g10, fun h => ⟨h, rfl, fun k hk => by simp at hk⟩⟩, g1, g4, g5, g6, g11, g12, g13, g74, g75, g76, Nat.zero_le _⟩ ?_
        clear g g1 g4 g5 g6 g10 g11 g12 g13 g74 g75 g76 cn cu
        rintro q g M ⟨hst, g1, g4, g5, g6, g11, g12, g13, g74, g75, g76, hq⟩
        refine awp_cut (fun _ => false) (fun _ => none) (fun f M => StI l P n S0 S1 c1 (KsI l i x S1 q) (f 10) M ∧ f 1 = .bp H.length 0 ∧ f 4 = .hm a ∧ f 5 = I n ∧ f 6 = .hs P.length 0 (n + 1) (n + 1) ∧ f 11 = I i ∧ f 12 = Int.sl x.uses ∧ f 13 = Int.sl x.defs ∧ f 74 = Int.sl (nxt l i) ∧ f 75 = I (nxt l i).length ∧ f 76 = I q ∧ f 77 = Bo (decide ((q : Int) < (nxt l i).length))) (by kernel_rfl) ?_ ?_
        · simp -dsimp [g1, g4, g5, g6, g11, g12, g13, g74, g75, g76, hst]
        clear g1 g4 g5 g6 g11 g12 g13 g74 g75 g76 hst M g
        rintro g M ⟨hst, g1, g4, g5, g6, g11, g12, g13, g74, g75, g76, g77⟩
        refine awp_cut (fun _ => false) (fun _ => none) (fun f M => StI l P n S0 S1 c1 (KsI l i x S1 q) (f 10) M ∧ f 1 = .bp H.length 0 ∧ f 4 = .hm a ∧ f 5 = I n ∧ f 6 = .hs P.length 0 (n + 1) (n + 1) ∧ f 11 = I i ∧ f 12 = Int.sl x.uses ∧ f 13 = Int.sl x.defs ∧ f 74 = Int.sl (nxt l i) ∧ f 75 = I (nxt l i).length ∧ f 76 = I q ∧ q < (nxt l i).length) (by kernel_rfl) ?_ ?_
        · simp -dsimp [g77]
          refine condVW_introD (fun hlt => ?_) (fun hlt => ?_)
          · simp -dsimp [g1, g4, g5, g6, g11, g12, g13, g74, g75, g76, hst]
            omega
          · have : q = (nxt l i).length := by omega
            subst this
            simp -dsimp [g1, g4, g5, g6, g11, g12, g13, g74, g75, g76, hst]
        clear g1 g4 g5 g6 g11 g12 g13 g74 g75 g76 g77 hst M g hq
        rintro g M ⟨hst, g1, g4, g5, g6, g11, g12, g13, g74, g75, g76, hq⟩
        refine awp_cutA (fun f M => StI l P n S0 S1 c1 (KsI l i x S1 (q + 1)) (f 10) M ∧ f 1 = .bp H.length 0 ∧ f 4 = .hm a ∧ f 5 = I n ∧ f 6 = .hs P.length 0 (n + 1) (n + 1) ∧ f 11 = I i ∧ f 12 = Int.sl x.uses ∧ f 13 = Int.sl x.defs ∧ f 74 = Int.sl (nxt l i) ∧ f 75 = I (nxt l i).length ∧ f 76 = I q) ?_ ?_
        rotate_left
        · clear g1 g4 g5 g6 g11 g12 g13 g74 g75 g76 hst M g
          rintro g M ⟨hst, g1, g4, g5, g6, g11, g12, g13, g74, g75, g76⟩
          refine awp_all (fun _ => false) (fun _ => none) (by kernel_rfl) ?_
          simp -dsimp [g1, g4, g5, g6, g11, g12, g13, g74, g75, g76]
          exact ⟨q + 1, by omega, hst, wrapS (by have := nxt_len l i; omega), by omega⟩
        obtain ⟨S2, L2, c2, rfl, hS2, ht2, hc2, g10, hcl2⟩ := hst
        refine awp_block ?_
        have hgk := List.getElem?_eq_getElem hq
        have hkm : (nxt l i)[q] ∈ nxt l i := List.getElem_mem hq
        have hki := nxt_in ho hkm
        have hkn := nxt_ne ho hkm
        have htk : (nxt l i).take (q + 1) = (nxt l i).take q ++ [(nxt l i)[q]] := List.take_succ_eq_append_getElem hq
        obtain ⟨kz, hkz⟩ : ∃ kz, kz = (nxt l i)[q] := ⟨_, rfl⟩
        rw [← hkz] at hgk hkm hki hkn htk
        clear hkz
        obtain ⟨k, rfl⟩ : ∃ k : Nat, kz = k := ⟨kz.toNat, by omega⟩
        have hkn' : k ≤ n := by omega
        have hkne : k ≠ i := by omega
        refine awp_cut (fun _ => false) (fun _ => none) (fun f M => Lv P n S2 L2 = M ∧ f 1 = .bp H.length 0 ∧ f 4 = .hm a ∧ f 5 = I n ∧ f 6 = .hs P.length 0 (n + 1) (n + 1) ∧ f 10 = Bo c2 ∧ f 11 = I i ∧ f 12 = Int.sl x.uses ∧ f 13 = Int.sl x.defs ∧ f 74 = Int.sl (nxt l i) ∧ f 75 = I (nxt l i).length ∧ f 76 = I q ∧ f 15 = I k) (by kernel_rfl) ?_ ?_
        · simp -dsimp [g1, g4, g5, g6, g10, g11, g12, g13, g74, g75, g76, hgk]
        clear g1 g4 g5 g6 g10 g11 g12 g13 g74 g75 g76 g
        rintro g _ ⟨rfl, g1, g4, g5, g6, g10, g11, g12, g13, g74, g75, g76, g15⟩
        obtain ⟨it, hit⟩ : ∃ it, it = P.length + 1 + (n + 1) + L2.length := ⟨_, rfl⟩
        refine awp_cut (fun _ => false) (fun _ => none) (fun f M => Lv P n S2 (L2 ++ [.it (some (P.length + 1 + k)) (S2 k).length []]) = M ∧ f 1 = .bp H.length 0 ∧ f 4 = .hm a ∧ f 5 = I n ∧ f 6 = .hs P.length 0 (n + 1) (n + 1) ∧ f 10 = Bo c2 ∧ f 11 = I i ∧ f 12 = Int.sl x.uses ∧ f 13 = Int.sl x.defs ∧ f 74 = Int.sl (nxt l i) ∧ f 75 = I (nxt l i).length ∧ f 76 = I q ∧ f 15 = I k ∧ f 84 = .hi it) (by kernel_rfl) ?_ ?_
        · have lc := fun S L => lv_cells P hkn' S L
          have le := fun S L => lv_es P hkn' S L
          have lln := lv_len P n S2 L2
          rw [← hit] at lln
          have la := fun X => lv_app P n S2 L2 X
          have sl := stand_len (S2 k)
          simp -dsimp [g1, g4, g5, g6, g10, g11, g12, g13, g74, g75, g76, g15, lr, rl]
          refine ⟨by omega, ?_⟩
          simp -dsimp [g1, g4, g5, g6, g10, g11, g12, g13, g74, g75, g76, g15, lc, le, lln, la, sl]
        clear g1 g4 g5 g6 g10 g11 g12 g13 g74 g75 g76 g15 g
        rintro g _ ⟨rfl, g1, g4, g5, g6, g10, g11, g12, g13, g74, g75, g76, g15, g84⟩
        obtain ⟨T, hT⟩ : ∃ T, T = S2 k := ⟨_, rfl⟩
        rw [← hT]
        refine awp_block ?_
        refine awp_loopI (fun (s : List Nat) f M => MapI l P n S0 S1 c1 (KsI l i x S1 q) i k x T L2 s (f 10) M ∧ f 1 = .bp H.length 0 ∧ f 4 = .hm a ∧ f 5 = I n ∧ f 6 = .hs P.length 0 (n + 1) (n + 1) ∧ f 11 = I i ∧ f 12 = Int.sl x.uses ∧ f 13 = Int.sl x.defs ∧ f 74 = Int.sl (nxt l i) ∧ f 75 = I (nxt l i).length ∧ f 76 = I q ∧ f 84 = .hi it ∧ s.Nodup ∧ ∀ j ∈ s, j < T.length) (fun s => T.length - s.length) []
          ⟨⟨S2, c2, rfl, hT.symm, hS2, ht2, hc2, g10, fun h => let ⟨a, b, c⟩ := hcl2 h; ⟨a, b, c, fun j hj => by cases hj⟩⟩, g1, g4, g5, g6, g11, g12, g13, g74, g75, g76, g84, List.nodup_nil, fun j hj => by cases hj⟩ ?_
        clear g g1 g4 g5 g6 g10 g11 g12 g13 g74 g75 g76 g15 g84 hS2 ht2 hc2 hcl2 hT S2 c2
        rintro s g _ ⟨⟨S2, c2, rfl, hT, hS2, ht2, hc2, g10, hcl2⟩, g1, g4, g5, g6, g11, g12, g13, g74, g75, g76, g84, hs1, hs2⟩
        have ccon := fun v H => int_contains x.defs v (by omega) H
        simp only [any_has] at ccon
        have mk := fun S s => lv_map P hkn' S (L2 ++ [.it (some (P.length + 1 + k)) T.length s])
        have jk := fun S s => lv_junk P n S L2 [] (.it (some (P.length + 1 + k)) T.length s)
        have js := fun S s c => lv_junkset P n S L2 [] (.it (some (P.length + 1 + k)) T.length s) c
        rw [← hit] at jk js
        have sl : (stand (S2 k)).length = T.length := by rw [stand_len, hT]
        refine awp_all (fun _ => false) (fun _ => none) (by kernel_rfl) ?_
        simp -dsimp [g84]
        refine nextVW_intro (jk S2 s) (mk S2 s) sl (fun j p hj hp => ?_) (fun hall => ?_)
        · have hp' := hp
          simp only [stand, hT, List.getElem?_map] at hp'
          obtain ⟨v, hv, rfl⟩ := Option.map_eq_some_iff.1 hp'
          have hjl : j < T.length := (List.getElem?_eq_some_iff.1 hv).1
          rw [js]
          have hlt := nodup_less hs1 hs2 hj hjl
          obtain ⟨q1, q2⟩ := nodup_snoc hs1 hs2 hj hjl
          have hs1 := Hid.mk hs1
          have hs2 := Hid.mk hs2
          simp -dsimp [g84]
          refine entryVW_intro (jk S2 (s ++ [j])) (mk S2 (s ++ [j])) sl hp ?_
          simp -dsimp [g1, g4, g5, g6, g10, g11, g12, g13, g74, g75, g76, g84]
          refine acallsW_det (ccon v _) ?_
          have hf := stand_find v (S2 i)
          have lci := fun S L => lv_cells P hdn S L
          have lei := fun S L => lv_es P hdn S L
          have rdone : (v ∉ x.defs → v ∈ S2 i) → ∃ y, T.length - y.length < T.length - s.length ∧ MapI l P n S0 S1 c1 (KsI l i x S1 q) i k x T L2 y (Bo c2) (Lv P n S2 (L2 ++ [.it (some (P.length + 1 + k)) T.length (s ++ [j])])) ∧ y.Nodup ∧ ∀ j ∈ y, j < T.length := fun hin => by
            refine ⟨s ++ [j], by simp; omega, ⟨S2, c2, rfl, hT, hS2, ht2, hc2, rfl, fun h => ?_⟩, q1, q2⟩
            obtain ⟨a1, a2, a3, a4⟩ := hcl2 h
            refine ⟨a1, a2, a3, fun j' hj' w hw hd => ?_⟩
            rcases List.mem_append.1 hj' with hj' | hj'
            · exact a4 j' hj' w hw hd
            · rw [List.mem_singleton] at hj'
              subst hj'
              rw [hv, Option.some.injEq] at hw
              subst hw
              rw [← a2]; exact hin hd
          replace rdone := Hid.mk rdone
          have hcl2 := Hid.mk hcl2
          have hc2 := Hid.mk hc2
          have hj := Hid.mk hj
          have hv := Hid.mk hv
          by_cases hd : v ∈ x.defs
          · simp -dsimp [g1, g4, g5, g6, g10, g11, g12, g13, g74, g75, g76, g84, hd]
            exact rdone.out (fun h => absurd hd h)
          simp -dsimp [g1, g4, g5, g6, g10, g11, g12, g13, g74, g75, g76, g84, hd, lr, rl]
          refine ⟨by omega, ?_⟩
          by_cases hvi : v ∈ S2 i
          · rw [if_pos hvi] at hf
            simp -dsimp [g1, g4, g5, g6, g10, g11, g12, g13, g74, g75, g76, g84, hd, lci, lei, hf]
            exact rdone.out (fun _ => hvi)
          · rw [if_neg hvi] at hf
            simp -dsimp [g1, g4, g5, g6, g10, g11, g12, g13, g74, g75, g76, g84, hd, lci, lei, hf, lr, rl]
            refine ⟨by omega, ?_⟩
            have hent := stand_ent v (S2 i) hvi
            have hmi := midx_stand v (S2 i) hvi
            have hsf := stand_fin v (S2 i)
            obtain ⟨N, hN⟩ : ∃ N, N = Lv P n S2 (L2 ++ [.it (some (P.length + 1 + k)) T.length (s ++ [j])]) := ⟨_, rfl⟩
            have eN : mapEs N (.hm (P.length + 1 + i)) = some (stand (S2 i)) := by rw [hN]; exact lei _ _
            have cN : cellsAt N (.rp P.length (n + 1) i 0) = some [.hm (P.length + 1 + i)] := by rw [hN]; exact lci _ _
            have eN2 : ∀ X, mapEs (N.set (P.length + 1 + i) (.map X)) (.hm (P.length + 1 + i)) = some X := fun X => by
              have hl : P.length + 1 + i < N.length := by rw [hN, lv_len]; omega
              simp [mapEs, hl]
            have sN : N.set (P.length + 1 + i) (.map (stand (S2 i ++ [v]))) = Lv P n (updS S2 i (S2 i ++ [v])) (L2 ++ [.it (some (P.length + 1 + k)) T.length (s ++ [j])]) := by rw [hN]; exact lv_set P hdn _ _ _
            have hsl := stand_len (S2 i)
            rw [← hN]
            simp -dsimp [g1, g4, g5, g6, g10, g11, g12, g13, g74, g75, g76, g84, cN, eN, hf, hent, hmi, eN2, hsl, hsf, sN]
            refine ⟨by omega, ?_⟩
            simp -dsimp [g1, g4, g5, g6, g10, g11, g12, g13, g74, g75, g76, g84, hsf, sN]
            have hvl : LiveAt l i v := .way hx hd hkm (hS2.live k (by omega) v (by rw [hT]; exact List.mem_of_getElem? hv.out))
            refine ⟨s ++ [j], by simp; omega, ⟨_, true, rfl, by rw [updS_ne _ _ hkne]; exact hT, hS2.add (by omega) hvi hvl, by rw [tot_add hdn]; omega, fun _ => by rw [tot_add hdn]; omega, rfl, fun h => by cases h⟩, q1, q2⟩
        · simp -dsimp [g1, g4, g5, g6, g10, g11, g12, g13, g74, g75, g76]
          refine ⟨S2, _, c2, rfl, hS2, ht2, hc2, rfl, fun h => ?_⟩
          obtain ⟨a1, a2, a3, a4⟩ := hcl2 h
          refine ⟨a1, a2, fun k' hk' v hv hd => ?_⟩
          rw [htk] at hk'
          rcases List.mem_append.1 hk' with hk' | hk'
          · exact a3 k' hk' v hv hd
          · rw [List.mem_singleton] at hk'
            subst hk'
            rw [Int.toNat_natCast, ← a2, hT] at hv
            obtain ⟨j, hj⟩ := List.mem_iff_getElem?.1 hv
            exact a4 j (hall j (List.getElem?_eq_some_iff.1 hj).1) v hj hd
      clear g g1 g4 g5 g6 g10 g11 g12 g13 cn cu dl
      rintro g M ⟨hst, g1, g4, g5, g6, g11, g12⟩
      refine awp_cut (fun _ => false) (fun _ => none) (fun f M => StI l P n S0 S1 c1 (KsI l i x S1 (nxt l i).length) (f 10) M ∧ f 1 = .bp H.length 0 ∧ f 4 = .hm a ∧ f 5 = I n ∧ f 6 = .hs P.length 0 (n + 1) (n + 1) ∧ f 11 = I i ∧ f 112 = Int.sl x.uses ∧ f 113 = I x.uses.length ∧ f 114 = I 0) (by kernel_rfl) ?_ ?_
      · simp -dsimp [g1, g4, g5, g6, g11, g12, hst]
      clear g1 g4 g5 g6 g11 g12 hst M g
      rintro g M ⟨hst, g1, g4, g5, g6, g11, g112, g113, g114⟩
      refine awp_block ?_
      refine awp_loopI (fun (q : Nat) f M => StI l P n S0 S1 c1 (KsI l i x S1 (nxt l i).length ∧ ∀ v ∈ x.uses.take q, v ∈ S1 i) (f 10) M ∧ f 1 = .bp H.length 0 ∧ f 4 = .hm a ∧ f 5 = I n ∧ f 6 = .hs P.length 0 (n + 1) (n + 1) ∧ f 11 = I i ∧ f 112 = Int.sl x.uses ∧ f 113 = I x.uses.length ∧ f 114 = I q ∧ q ≤ x.uses.length) (fun q => x.uses.length - q) 0
        ⟨hst.weak fun h => ⟨h, fun v hv => by simp at hv⟩, g1, g4, g5, g6, g11, g112, g113, g114, Nat.zero_le _⟩ ?_
      clear g1 g4 g5 g6 g11 g112 g113 g114 hst M g
      rintro q g _ ⟨⟨S2, L2, c2, rfl, hS2, ht2, hc2, g10, hcl2⟩, g1, g4, g5, g6, g11, g112, g113, g114, hq⟩
      refine awp_all (fun _ => false) (fun _ => none) (by kernel_rfl) ?_
      have lci := fun S L => lv_cells P hdn S L
      have lei := fun S L => lv_es P hdn S L
      simp -dsimp [g113, g114]
      refine condVW_introD (fun hlt => ?_) (fun hlt => ?_)
      · have hlt' : q < x.uses.length := by omega
        have hgk := List.getElem?_eq_getElem hlt'
        have htk : x.uses.take (q + 1) = x.uses.take q ++ [x.uses[q]] := List.take_succ_eq_append_getElem hlt'
        have hvm : x.uses[q] ∈ x.uses := List.getElem_mem hlt'
        obtain ⟨v, hv⟩ : ∃ v, v = x.uses[q] := ⟨_, rfl⟩
        rw [← hv] at hgk htk hvm
        have hvr : v ∈ x.raw := (riseL_mem _ _).1 hvm
        have hf := stand_find v (S2 i)
        simp -dsimp [g1, g4, g5, g6, g10, g11, g112, g113, g114, hgk, lr, rl]
        refine ⟨by omega, ?_⟩
        by_cases hvi : v ∈ S2 i
        · rw [if_pos hvi] at hf
          simp -dsimp [g1, g4, g5, g6, g10, g11, g112, g113, g114, hgk, lci, lei, hf]
          refine ⟨q + 1, by omega, ⟨S2, L2, c2, rfl, hS2, ht2, hc2, rfl, fun h => ?_⟩, wrapS (by omega), by omega⟩
          obtain ⟨a1, a2, a3, a4⟩ := hcl2 h
          refine ⟨a1, a2, a3, fun w hw => ?_⟩
          rw [htk] at hw
          rcases List.mem_append.1 hw with hw | hw
          · exact a4 w hw
          · rw [List.mem_singleton] at hw; subst hw; rw [← a2]; exact hvi
        · rw [if_neg hvi] at hf
          have hent := stand_ent v (S2 i) hvi
          have hmi := midx_stand v (S2 i) hvi
          have hsf := stand_fin v (S2 i)
          simp -dsimp [g1, g4, g5, g6, g10, g11, g112, g113, g114, hgk, lci, lei, hf, lr, rl]
          refine ⟨by omega, ?_⟩
          obtain ⟨N, hN⟩ : ∃ N, N = Lv P n S2 L2 := ⟨_, rfl⟩
          have eN : mapEs N (.hm (P.length + 1 + i)) = some (stand (S2 i)) := by rw [hN]; exact lei _ _
          have cN : cellsAt N (.rp P.length (n + 1) i 0) = some [.hm (P.length + 1 + i)] := by rw [hN]; exact lci _ _
          have eN2 : ∀ X, mapEs (N.set (P.length + 1 + i) (.map X)) (.hm (P.length + 1 + i)) = some X := fun X => by
            have hl : P.length + 1 + i < N.length := by rw [hN, lv_len]; omega
            simp [mapEs, hl]
          have sN : N.set (P.length + 1 + i) (.map (stand (S2 i ++ [v]))) = Lv P n (updS S2 i (S2 i ++ [v])) L2 := by rw [hN]; exact lv_set P hdn _ _ _
          have hsl := stand_len (S2 i)
          rw [← hN]
          simp -dsimp [g1, g4, g5, g6, g10, g11, g112, g113, g114, cN, eN, hf, hent, hmi, eN2, hsl, hsf, sN]
          refine ⟨by omega, ?_⟩
          simp -dsimp [g1, g4, g5, g6, g10, g11, g112, g113, g114, hsf, sN]
          exact ⟨q + 1, by omega, ⟨_, L2, true, rfl, hS2.add (by omega) hvi (.read hx hvr), by rw [tot_add hdn]; omega, fun _ => by rw [tot_add hdn]; omega, rfl, fun h => by cases h⟩, wrapS (by omega), by omega⟩
      · simp -dsimp [g1, g4, g5, g6, g10, g11, g112, g113, g114]
        refine ⟨S2, L2, c2, rfl, hS2, ht2, hc2, rfl, fun h => ?_⟩
        obtain ⟨a1, a2, a3, a4⟩ := hcl2 h
        refine ⟨a1, a2, fun k hk v hv hd => a3 k (by rw [List.take_of_length_le (Nat.le_refl _)]; exact hk) v hv hd, fun v hv => a4 v ?_⟩
        rw [List.take_of_length_le (by omega)]
        exact (riseL_mem _ _).2 hv
    clear g g1 g4 g5 g6 g10
    rintro g _ ⟨⟨S, L, c, rfl, hS, ht, hc, g10, hcl⟩, g1, g4, g5, g6⟩
    refine awp_all (fun _ => false) (fun _ => none) (by kernel_rfl) ?_
    have hle := hS.tot_le ho
    rw [← hn2.out] at hle
    cases c with
    | true =>
      simp -dsimp [g1, g4, g5, g6, g10]
      have := hc rfl
      exact ⟨(n + 1) * l.vars.toNat - tot n S, by omega, ⟨S, ⟨L, rfl⟩, hS, by omega⟩⟩
    | false =>
      simp -dsimp [g1, g4, g5, g6, g10]
      exact ⟨S, ⟨L, rfl⟩, hS, fun i x hx => hcl rfl i x (by omega) hx⟩
  clear g g1 g4 g5 g6 hS0 S0
  rintro g _ ⟨⟨S, L, rfl, hS, hcl⟩, g1, g5, g6⟩
  obtain ⟨N, hN⟩ : ∃ N, N = Lv P n S L := ⟨_, rfl⟩
  have Nr := lr S L
  have Nc := fun j (hj : j ≤ n) => lv_cells P hj S L
  have Nm := fun j (hj : j ≤ n) => lv_map P hj S L
  have Nrise : ∀ i, i ≤ n → riseL (S i) = liveL l i := fun i hi => hS.rise ho hcl (by omega)
  have Nlen : ∀ i, i ≤ n → (S i).length ≤ 2^40 := fun i hi => by
    have h1 := nodup_lenI _ _ (hS.once i (by omega)) fun v hv => by
      have := (live_in ho (hS.live i (by omega) v hv)).1
      exact ⟨this.1, (by omega : v < (l.vars.toNat : Int))⟩
    have := ho.vars.2
    omega
  have Nnd : ∀ i, i ≤ n → (S i).Nodup := fun i hi => hS.once i (by omega)
  have hNH : ∃ X, N = H ++ X := by rw [hN]; unfold Lv; rw [hP.out, hB.out]; simp only [List.append_assoc]; exact ⟨_, rfl⟩
  rw [← hN] at Nr Nc Nm ⊢
  clear lr lb lm hN hS hcl
  refine awp_cut (fun _ => false) (fun _ => none) (fun f M => N = M ∧ f 5 = I n ∧ f 6 = .hs P.length 0 (n + 1) (n + 1) ∧ f 19 = nilS) (by kernel_rfl) ?_ ?_
  · simp -dsimp [g1, g5, g6]
  clear g g1 g5 g6
  rintro g _ ⟨rfl, g5, g6, g19⟩
  have hll : (lvL l).length = n := by unfold lvL; simp; omega
  have hlg : ∀ i, i < n → (lvL l)[i]? = some (liveL l i) := fun i hi => by unfold lvL; rw [List.getElem?_map, List.getElem?_range (by omega)]; rfl
  refine awp_cut (fun d => d == 149) (fun _ => none) (fun f M => ∃ h, f 19 = hrow h n ∧ OwnLs N M h (lvL l)) (by kernel_rfl) ?_ ?_
  · simp -dsimp [g5, g6, g19]
    refine loop_rule (hn := fun d => d == 149) (od := fun _ => none) (fun (i : Nat) f M => (∃ h, f 19 = hrow h i ∧ OwnLs N M h ((lvL l).take i)) ∧ f 5 = I n ∧ f 6 = .hs P.length 0 (n + 1) (n + 1) ∧ f 137 = I n ∧ f 138 = I i ∧ i ≤ n) (fun i => n - i) (by kernel_rfl) 0 ⟨⟨none, by simp [g19]; rfl, .nil1 _ _ _⟩, by simp [g5, g6]⟩ ?_
    clear g g5 g6 g19
    rintro i g M ⟨⟨h, g19, ow⟩, g5, g6, g137, g138, hi⟩
    simp -dsimp [g137, g138]
    refine condVW_introD (fun hlt => ?_) (fun hlt => ?_)
    · have hlt' : i < n := by omega
      have hgi := hlg i hlt'
      have r1 := ow.old Nr
      have r2 : cellsAt M (.rp P.length (n + 1) i 0) = some [.hm (P.length + 1 + i)] := by simp [cellsAt, r1, rl, liveRow_get (show i < n + 1 by omega)]
      have r3 := ow.old (Nm i (by omega))
      have ck := imkeys_ok (P.length + 1 + i) M
      have cs := isorted_give (S i) (Nnd i (by omega)) (Nlen i (by omega)) (P.length + 1 + i) M.length (M ++ [.box 120 [.hm (P.length + 1 + i)]]) (by simp) (get_app_old r3 _)
      rw [Nrise i (by omega)] at cs
      have hi' := Hid.mk hi
      simp -dsimp [g5, g6, g19, g137, g138, r1, rl]
      refine ⟨by omega, ?_⟩
      simp -dsimp [g5, g6, g19, g137, g138, r2]
      refine acallsW_of ck ?_
      rintro e _ ⟨rfl, rfl⟩
      simp -dsimp [g5, g6, g19, g137, g138]
      refine acallsW_det cs ?_
      simp -dsimp [g5, g6, g19, g137, g138]
      refine app_own (ow.app [.box 120 [.hm (P.length + 1 + i)]]) (by simp; omega) rfl rfl (by simp; omega) (by simp; omega) ?_
      intro h' M' ow' _
      have htk : (lvL l).take (i + 1) = (lvL l).take i ++ [liveL l i] := by rw [List.take_add_one, hgi]; rfl
      have ow2 : OwnLs N M' h' ((lvL l).take (i + 1)) := by unfold OwnLs; rw [htk, List.map_append]; exact ow'
      have hlen : (((lvL l).take i).map (fun x => [Int.sl x]) ++ [[Int.sl (liveL l i)]]).length = i + 1 := by simp; omega
      rw [show (AV.vs 1 (List.map (fun n => [I n]) (liveL l i))) = Int.sl (liveL l i) from rfl, hlen]
      simp -dsimp [g5, g6, g19, g137, g138]
      exact ⟨i + 1, by omega, ⟨h', rfl, ow2⟩, wrapS (by omega), by omega⟩
    · obtain rfl : i = n := by omega
      simp -dsimp [g19]
      exact ⟨h, rfl, by rw [List.take_of_length_le (by omega)] at ow; exact ow⟩
  clear g g5 g6 g19
  rintro g M ⟨h, g19, ow⟩
  refine awp_all (fun _ => false) (fun _ => none) (by kernel_rfl) ?_
  simp -dsimp [g19]
  obtain ⟨X, hX⟩ := hNH
  rw [hX] at ow
  exact tidy_rowAV hu.out ow.less (ints_frzB _) (by simp; omega) ⟨rfl, rfl⟩
end Go.Proofs
namespace Go.Proofs
open Go.Mu
end Go.Proofs
namespace Go.Proofs
open Go.Mu
end Go.Proofs
namespace Go.Proofs
open Go.Mu
structure Srch (l : Linear) (i : Nat) (v : Int) (sn : List Bool) (td : List Int) : Prop where
  len : sn.length = l.code.length + 1
  bnd : ∀ k ∈ td, 0 ≤ k ∧ k ≤ l.code.length
  sound : ∀ k ∈ td, LiveAt l k.toNat v → LiveAt l i v
  start : sn[i]? = some true ∨ (i : Int) ∈ td
  done : ∀ k : Nat, sn[k]? = some true → (k = l.code.length → v ∉ l.rets) ∧ ∀ x, l.code[k]? = some x → v ∉ x.raw ∧ (v ∉ x.defs → ∀ j ∈ nxt l k, sn[j.toNat]? = some true ∨ j ∈ td)
end Go.Proofs
namespace Go.Proofs
open Go.Mu
end Go.Proofs
namespace Go.Proofs
open Go.Mu
end Go.Proofs
namespace Go.Proofs
open Go.Mu
end Go.Proofs
namespace Go.Proofs
open Go.Mu
structure RBeg (l : Linear) (regs : List Int) : Prop where
  len : (regs.length : Int) = l.vars
  rng : ∀ n ∈ regs, -1 ≤ n ∧ n < 11
  has : ∀ p ∈ l.params, 0 ≤ rg regs p
  once : ∀ (i k : Nat) (p q : Int), l.params[i]? = some p → l.params[k]? = some q → k ≠ i → rg regs q ≠ rg regs p
  live : ∀ v ∈ liveL l 0, v ∉ l.params → 0 ≤ rg regs v ∧ ∀ p ∈ l.params, rg regs p ≠ rg regs v
structure RRight (l : Linear) (regs : List Int) (i : Nat) (x : Line) : Prop where
  uses : ∀ v ∈ x.uses, 0 ≤ rg regs v
  defs : ∀ d ∈ x.defs, 0 ≤ rg regs d ∧ ∀ b ∈ behL l i, b ≠ d → rg regs b = rg regs d → x.ins.kind = 2 ∧ x.ins.a = b
end Go.Proofs
namespace Go.Proofs
open Go.Mu
def rawI (x : Ins) : List Int :=
  if x.kind = 2 then [x.a]
  else if x.kind = 3 then [x.a] ++ (if x.op = 4 ∨ x.op = 5 then [] else [x.b]) ++ (if x.op = 21 then [x.c] else [])
  else if x.kind = 5 then [x.b] ++ (if 0 ≤ x.a then [x.a] else [])
  else if x.kind = 4 then (if 0 ≤ x.a then [x.a] else [])
  else []
theorem raw_ins {x : Line} (h : x.kind = 1) : x.raw = rawI x.ins := by
  unfold Line.raw rawI
  rw [if_neg (by omega), if_pos h]
theorem wArg_cases {op : Int} (h : wArgN op = 1 ∨ wArgN op = 2 ∨ wArgN op = 3) : (wArgN op = 1 ∧ (op = 4 ∨ op = 5)) ∨ (wArgN op = 2 ∧ 6 ≤ op ∧ op ≤ 20) ∨ (wArgN op = 3 ∧ op = 21) := by
  unfold wArgN at *
  split
  · exact .inl ⟨rfl, by assumption⟩
  · split
    · exact .inr (.inl ⟨rfl, by assumption⟩)
    · split
      · exact .inr (.inr ⟨rfl, by assumption⟩)
      · rename_i a b c
        rw [if_neg a, if_neg b, if_neg c] at h
        simp at h
theorem doM1 {lay : List Rg} {x : Ins} {stk : Int} {V b : List Int} (h : x.kind = 1) : doM lay x stk V b = ⟨V.set x.d.toNat x.word, b, 0, false, 0⟩ := by
  unfold doM
  rw [if_pos h]
theorem doM2 {lay : List Rg} {x : Ins} {stk : Int} {V b : List Int} (h : x.kind = 2) : doM lay x stk V b = ⟨V.set x.d.toNat (vg V x.a), b, 0, false, 0⟩ := by
  unfold doM
  rw [if_neg (by omega), if_pos h]
theorem doM3 {lay : List Rg} {x : Ins} {stk : Int} {V b : List Int} (h : x.kind = 3) : doM lay x stk V b = ⟨V.set x.d.toNat (evalE x.op ([vg V x.a, vg V x.b, vg V x.c].take (wArgN x.op).toNat)), b, 0, false, 0⟩ := by
  unfold doM
  rw [if_neg (by omega), if_neg (by omega), if_pos h]
theorem doM4 {lay : List Rg} {x : Ins} {stk : Int} {V b : List Int} (h : x.kind = 4) : doM lay x stk V b = if askE lay (insAddr x stk V) = 0 then ⟨V.set x.d.toNat (getW b (insAddr x stk V).toNat), b, insAddr x stk V, true, 0⟩ else ⟨V, b, 0, false, 14⟩ := by
  unfold doM
  rw [if_neg (by omega), if_neg (by omega), if_neg (by omega), if_pos h]
theorem doM5 {lay : List Rg} {x : Ins} {stk : Int} {V b : List Int} (h : x.kind = 5) : doM lay x stk V b = if askE lay (insAddr x stk V) = 0 then ⟨V, putW b (insAddr x stk V).toNat (vg V x.b), insAddr x stk V, true, 0⟩ else ⟨V, b, 0, false, 14⟩ := by
  unfold doM
  rw [if_neg (by omega), if_neg (by omega), if_neg (by omega), if_neg (show ¬ x.kind = 4 by omega)]
end Go.Proofs
namespace Go.Proofs
open Go.Mu
structure ChkOk (l : Linear) (regs : List Int) : Prop where
  beg : RBeg l regs
  nd : (l.params.map (rg regs)).Nodup
  right : ∀ i x, l.code[i]? = some x → RRight l regs i x
  rets : ∀ v ∈ l.rets, 0 ≤ rg regs v
section
variable {l : Linear} {regs : List Int}
structure Sim (l : Linear) (regs : List Int) (i : Nat) (V V' : List Int) : Prop where
  v : (V.length : Int) ≥ l.vars
  v' : V'.length = 11
  eq : ∀ v, LiveAt l i v → vg V v = vg V' (rg regs v)
theorem vg_set {V : List Int} {d v w : Int} (hd : 0 ≤ d) (hd2 : d < V.length) (hv : 0 ≤ v) : vg (V.set d.toNat w) v = if v = d then w else vg V v := by
  unfold vg
  rw [List.getD_eq_getElem?_getD, List.getD_eq_getElem?_getD, List.getElem?_set]
  by_cases e : v = d
  · subst e
    rw [if_pos rfl, if_pos rfl, if_pos (by omega)]
    rfl
  · rw [if_neg (by omega), if_neg e]
end
end Go.Proofs
namespace Go.Proofs
open Go.Mu
theorem addr_dep {x : Ins} {V V' : List Int} (stk : Int) (ha : 0 ≤ x.a → vg V x.a = vg V' x.a) : insAddr x stk V' = insAddr x stk V := by
  unfold insAddr
  by_cases h : 0 ≤ x.a
  · rw [if_pos h, if_pos h, ha h]
  · rw [if_neg h, if_neg h]
def AlikeI (x : Ins) (V V' : List Int) (D D' : DoR) : Prop :=
  D'.b = D.b ∧ D'.addr = D.addr ∧ D'.seen = D.seen ∧ D'.err = D.err ∧
    ((D.V = V ∧ D'.V = V' ∧ (x.kind = 5 ∨ D.err ≠ 0)) ∨ ∃ w, D.V = V.set x.d.toNat w ∧ D'.V = V'.set x.d.toNat w ∧ x.kind ≠ 5)
theorem do_dep {vars : Int} {x : Ins} {V V' b : List Int} (lay : List Rg) (stk : Int) (hins : insOk vars x = true) (ha : ∀ v ∈ rawI x, vg V v = vg V' v) : AlikeI x V V' (doM lay x stk V b) (doM lay x stk V' b) := by
  unfold rawI at ha
  cases insK hins with
  | word h hd hs =>
    rw [doM1 h, doM1 h]
    exact ⟨rfl, rfl, rfl, rfl, .inr ⟨_, rfl, rfl, by omega⟩⟩
  | move h hd hsa hs =>
    rw [if_pos h] at ha
    rw [doM2 h, doM2 h, ← ha x.a (by simp)]
    exact ⟨rfl, rfl, rfl, rfl, .inr ⟨_, rfl, rfl, by omega⟩⟩
  | op h hd h1 h2 h3 hw hs =>
    rw [if_neg (by omega), if_pos h] at ha
    have hv : evalE x.op ([vg V' x.a, vg V' x.b, vg V' x.c].take (wArgN x.op).toNat) = evalE x.op ([vg V x.a, vg V x.b, vg V x.c].take (wArgN x.op).toNat) := by
      rcases wArg_cases hw with ⟨hw, ho⟩ | ⟨hw, ho⟩ | ⟨hw, ho⟩
      · rw [hw, ha x.a (by simp)]; rfl
      · rw [hw, ha x.a (by simp), ha x.b (by rw [if_neg (by omega)]; simp)]; rfl
      · rw [hw, ha x.a (by simp), ha x.b (by rw [if_neg (by omega)]; simp), ha x.c (by rw [if_pos ho]; simp)]
    rw [doM3 h, doM3 h, hv]
    exact ⟨rfl, rfl, rfl, rfl, .inr ⟨_, rfl, rfl, by omega⟩⟩
  | load h hd h1 =>
    rw [if_neg (by omega), if_neg (by omega), if_neg (by omega), if_pos h] at ha
    have eA := addr_dep (x := x) (V := V) (V' := V') stk (fun q => ha x.a (by rw [if_pos q]; simp))
    rw [doM4 h, doM4 h, eA]
    by_cases he : askE lay (insAddr x stk V) = 0
    · simp only [if_pos he]
      exact ⟨rfl, rfl, rfl, rfl, .inr ⟨_, rfl, rfl, by omega⟩⟩
    · simp only [if_neg he]
      exact ⟨rfl, rfl, rfl, rfl, .inl ⟨rfl, rfl, .inr (by show (14 : Int) ≠ 0; omega)⟩⟩
  | store h h1 h2 =>
    rw [if_neg (by omega), if_neg (by omega), if_pos h] at ha
    have eA := addr_dep (x := x) (V := V) (V' := V') stk (fun q => ha x.a (by rw [if_pos q]; simp))
    rw [doM5 h, doM5 h, eA, ← ha x.b (by simp)]
    by_cases he : askE lay (insAddr x stk V) = 0
    · simp only [if_pos he]
      exact ⟨rfl, rfl, rfl, rfl, .inl ⟨rfl, rfl, .inl h⟩⟩
    · simp only [if_neg he]
      exact ⟨rfl, rfl, rfl, rfl, .inl ⟨rfl, rfl, .inl h⟩⟩
structure SimI (l : Linear) (i : Nat) (V V' : List Int) : Prop where
  v : (V.length : Int) ≥ l.vars
  v' : (V'.length : Int) ≥ l.vars
  eq : ∀ v, LiveAt l i v → vg V v = vg V' v
variable {l : Linear}
theorem simI_set (ho : LinOk l) {i k : Nat} {x : Line} {V V' : List Int} (hx : l.code[i]? = some x) (hk1 : x.kind = 1) (h5 : x.ins.kind ≠ 5) (hn : (k : Int) ∈ nxt l i) (hs : SimI l i V V') (w : Int) :
    SimI l k (V.set x.ins.d.toNat w) (V'.set x.ins.d.toNat w) := by
  have hdefs : x.defs = [x.ins.d] := by unfold Line.defs; rw [if_pos ⟨hk1, h5⟩]
  have hdi := (line_in (ho.lines x (List.mem_of_getElem? hx))).2.2 x.ins.d (by rw [hdefs]; simp)
  refine ⟨by rw [List.length_set]; exact hs.v, by rw [List.length_set]; exact hs.v', fun v hv => ?_⟩
  have hvi := (live_in ho hv).1
  have hv1 := hs.v
  have hv2 := hs.v'
  rw [vg_set hdi.1 (by omega) hvi.1, vg_set hdi.1 (by omega) hvi.1]
  by_cases e : v = x.ins.d
  · subst e
    rw [if_pos rfl, if_pos rfl]
  · rw [if_neg e, if_neg e]
    exact hs.eq v (.way hx (by rw [hdefs]; simpa using e) hn hv)
theorem simI_pass (ho : LinOk l) {i k : Nat} {x : Line} {V V' : List Int} (hx : l.code[i]? = some x) (hd : x.defs = []) (hn : (k : Int) ∈ nxt l i) (hs : SimI l i V V') : SimI l k V V' :=
  ⟨hs.v, hs.v', fun v hv => hs.eq v (.way hx (by rw [hd]; simp) hn hv)⟩
theorem run_dep (hok : l.ok = true) (lay : List Rg) (stk : Int) (fuel : Nat) : ∀ (m : Nat) (s s' : RSt), s'.i = s.i → s'.b = s.b → s'.seen = s.seen → s.i ≤ l.code.length → SimI l s.i s.V s'.V →
    lrun lay l stk fuel m s' = lrun lay l stk fuel m s := by
  have ho := ((ok_iff l).1 hok).1
  intro m
  induction m with
  | zero =>
    intro s s' hi hb hse hle hs
    cases hx : l.code[s.i]? with
    | none =>
      have hx' : l.code[s'.i]? = none := by rw [hi, hx]
      rw [lrun_none hx, lrun_none hx']
      have he : s.i = l.code.length := by rw [List.getElem?_eq_none_iff] at hx; omega
      have hr : l.rets.map (vg s'.V) = l.rets.map (vg s.V) := List.map_congr_left fun v hv => (hs.eq v (by rw [he]; exact .told hv)).symm
      simp only [hr, hb, hse]
    | some x =>
      have hx' : l.code[s'.i]? = some x := by rw [hi, hx]
      rw [lrun_zero hx, lrun_zero hx']
      simp only [hb, hse]
  | succ m ih =>
    intro s s' hi hb hse hle hs
    cases hx : l.code[s.i]? with
    | none =>
      have hx' : l.code[s'.i]? = none := by rw [hi, hx]
      rw [lrun_none hx, lrun_none hx']
      have he : s.i = l.code.length := by rw [List.getElem?_eq_none_iff] at hx; omega
      have hr : l.rets.map (vg s'.V) = l.rets.map (vg s.V) := List.map_congr_left fun v hv => (hs.eq v (by rw [he]; exact .told hv)).symm
      simp only [hr, hb, hse]
    | some x =>
      have hx' : l.code[s'.i]? = some x := by rw [hi, hx]
      have hlk := ho.lines x (List.mem_of_getElem? hx)
      have hraw : ∀ v ∈ x.raw, vg s.V v = vg s'.V v := fun v hv => hs.eq v (.read hx hv)
      have hnx : ∀ k : Nat, (k : Int) ∈ nxt l s.i → k ≤ l.code.length := fun k hk => by have := (nxt_in ho hk).2.1; omega
      have hnd : nxt l s.i = if x.kind = 5 then [(l.code.length : Int)] else if x.kind = 3 then [(whr l.code x.label : Int)] else if x.kind = 4 then riseL [(s.i : Int) + 1, (whr l.code x.label : Int)] else [(s.i : Int) + 1] := by unfold nxt; rw [hx]
      rw [lrun_succ hx, lrun_succ hx']
      by_cases k1 : x.kind = 1
      · unfold lineOk at hlk
        rw [if_pos k1, Bool.and_eq_true] at hlk
        obtain ⟨e1, e2, e3, e4, e5⟩ := do_dep (V := s.V) (V' := s'.V) (b := s.b) lay stk hlk.1 (fun v hv => hraw v (by rw [raw_ins k1]; exact hv))
        rw [lstep1 k1, lstep1 k1]
        simp only [hb, hse, hi, e1, e2, e3, e4]
        by_cases he : (doM lay x.ins stk s.V s.b).err = 0
        · rw [if_pos he, if_pos he]
          have hn1 : ((s.i + 1 : Nat) : Int) ∈ nxt l s.i := by rw [hnd, if_neg (by omega), if_neg (by omega), if_neg (by omega)]; simp
          refine ih _ _ rfl rfl rfl (hnx _ hn1) ?_
          rcases e5 with ⟨q1, q2, q3⟩ | ⟨w, q1, q2, q3⟩
          · simp only [q1, q2]
            exact simI_pass ho hx (by unfold Line.defs; rw [if_neg]; rintro ⟨_, h5⟩; exact q3.elim (fun q => h5 q) (fun q => q he)) hn1 hs
          · simp only [q1, q2]
            exact simI_set ho hx k1 q3 hn1 hs w
        · rw [if_neg he, if_neg he]
      · have hdf : x.defs = [] := by unfold Line.defs; rw [if_neg (fun h => k1 h.1)]
        by_cases k4 : x.kind = 4
        · have hv := hraw x.var (by unfold Line.raw; rw [if_pos k4]; simp)
          rw [lstep4 k4, lstep4 k4, if_pos rfl, if_pos rfl]
          simp only [← hv, hb, hse, hi]
          have hn : ((if vg s.V x.var = 0 then whr l.code x.label else s.i + 1 : Nat) : Int) ∈ nxt l s.i := by
            rw [hnd, if_neg (by omega), if_neg (by omega), if_pos k4, riseL_mem]
            split <;> simp
          exact ih _ _ rfl rfl rfl (hnx _ hn) (simI_pass ho hx hdf hn hs)
        · by_cases k3 : x.kind = 3
          · rw [lstep3 k3, lstep3 k3, if_pos rfl, if_pos rfl]
            simp only [hb, hse]
            have hn : ((whr l.code x.label : Nat) : Int) ∈ nxt l s.i := by rw [hnd, if_neg (by omega), if_pos k3]; simp
            exact ih _ _ rfl rfl rfl (hnx _ hn) (simI_pass ho hx hdf hn hs)
          · by_cases k5 : x.kind = 5
            · rw [lstep5 k5, lstep5 k5, if_pos rfl, if_pos rfl]
              simp only [hb, hse]
              have hn : ((l.code.length : Nat) : Int) ∈ nxt l s.i := by rw [hnd, if_pos k5]; simp
              exact ih _ _ rfl rfl rfl (hnx _ hn) (simI_pass ho hx hdf hn hs)
            · rw [lstep2 k1 k4 k3 k5, lstep2 k1 k4 k3 k5, if_pos rfl, if_pos rfl]
              simp only [hb, hse, hi]
              have hn : ((s.i + 1 : Nat) : Int) ∈ nxt l s.i := by rw [hnd, if_neg k5, if_neg k3, if_neg k4]; simp
              exact ih _ _ rfl rfl rfl (hnx _ hn) (simI_pass ho hx hdf hn hs)
theorem args_dep (hok : l.ok = true) (args args' : List Int) (hd : ∀ i p, l.params[i]? = some p → LiveAt l 0 p → args.getD i 0 = args'.getD i 0) {V0 : List Int} (h0 : (V0.length : Int) ≥ l.vars) :
    ∀ i, i ≤ l.params.length → ∀ v, LiveAt l 0 v → vg (argsTo V0 l.params args i) v = vg (argsTo V0 l.params args' i) v := by
  have ho := ((ok_iff l).1 hok).1
  intro i
  induction i with
  | zero => intro _ v _; rfl
  | succ i ih =>
    intro hi v hv
    have ih := ih (by omega) v hv
    have hp := getD_at (b := l.params) (i := i) (by omega)
    obtain ⟨p, hpe⟩ : ∃ p, p = l.params.getD i 0 := ⟨_, rfl⟩
    rw [← hpe] at hp
    have hpi := ho.params p (List.mem_of_getElem? hp)
    have hvi := (live_in ho hv).1
    rw [argsTo, argsTo, ← hpe, vg_set hpi.1 (by rw [argsTo_len]; omega) hvi.1, vg_set hpi.1 (by rw [argsTo_len]; omega) hvi.1]
    by_cases e : v = p
    · subst e
      rw [if_pos rfl, if_pos rfl]
      exact hd i v hp hv
    · rw [if_neg e, if_neg e]
      exact ih
theorem dead_same (hok : l.ok = true) (lay : List Rg) (args args' b : List Int) (hd : ∀ i p, l.params[i]? = some p → LiveAt l 0 p → args.getD i 0 = args'.getD i 0) (stk : Int) (fuel : Nat) : runM lay l args' b stk fuel = runM lay l args b stk fuel := by
  have hv0 : ((List.replicate (varN l) (0 : Int)).length : Int) ≥ l.vars := by rw [List.length_replicate]; unfold varN; omega
  unfold runM
  refine run_dep hok lay stk fuel fuel _ _ rfl rfl rfl (Nat.zero_le _) ⟨?_, ?_, fun v hv => ?_⟩
  · show ((runV l args).length : Int) ≥ l.vars
    unfold runV
    rw [argsTo_len]; exact hv0
  · show ((runV l args').length : Int) ≥ l.vars
    unfold runV
    rw [argsTo_len]; exact hv0
  · exact args_dep hok args args' hd hv0 _ (Nat.le_refl _) v hv
end Go.Proofs
