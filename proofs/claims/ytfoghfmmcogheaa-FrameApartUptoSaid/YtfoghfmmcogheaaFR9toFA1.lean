/- What is laid fits; no two have a name: plain laws. -/
import Derived.Test.YtfoghfmmcogheaaFwSortNtoL4
set_option linter.unusedVariables false
set_option linter.unusedSimpArgs false
set_option maxHeartbeats 4000000
set_option maxRecDepth 100000
namespace Go.Proofs
open Go.Mu
theorem lays_name : ∀ (l : List Vr) (n : Int), (laysV n l).map Pl.name = l.map Vr.name
  | [], _ => rfl
  | v :: l, n => by rw [laysV, List.map_cons, List.map_cons, lays_name l]
theorem lays_mem : ∀ {l : List Vr} {n : Int}, (∀ v ∈ l, 1 ≤ v.size) → ∀ x ∈ laysV n l, (∃ v ∈ l, v.name = x.name ∧ v.size = x.size) ∧ n ≤ x.at_ ∧ x.at_ + 8 * x.size ≤ n + totV l ∧ x.at_ % 8 = n % 8
  | [], n, _, x, hx => by cases hx
  | v :: l, n, hs, x, hx => by
    have h0 := hs v (List.mem_cons_self ..)
    have hs' : ∀ w ∈ l, 1 ≤ w.size := fun w hw => hs w (List.mem_cons_of_mem _ hw)
    have ht : 0 ≤ totV l := by
      clear hx h0 hs
      induction l with
      | nil => exact Int.le_refl _
      | cons w l ih => have := hs' w (List.mem_cons_self ..); have := ih (fun w hw => hs' w (List.mem_cons_of_mem _ hw)); rw [totV]; omega
    rw [laysV] at hx
    rw [totV]
    rcases List.mem_cons.1 hx with rfl | hx
    · exact ⟨⟨v, List.mem_cons_self .., rfl, rfl⟩, Int.le_refl _, by simp only; omega, rfl⟩
    · obtain ⟨⟨w, hw, e⟩, h1, h2, h3⟩ := lays_mem hs' x hx
      exact ⟨⟨w, List.mem_cons_of_mem _ hw, e⟩, by omega, by omega, by omega⟩
theorem lays_apart : ∀ {l : List Vr} {n : Int}, (∀ v ∈ l, 1 ≤ v.size) → (laysV n l).Pairwise (fun x y => x.at_ + 8 * x.size ≤ y.at_)
  | [], n, _ => .nil
  | v :: l, n, hs => by
    rw [laysV, List.pairwise_cons]
    have hs' : ∀ w ∈ l, 1 ≤ w.size := fun w hw => hs w (List.mem_cons_of_mem _ hw)
    exact ⟨fun y hy => (lays_mem hs' y hy).2.1, lays_apart hs'⟩
theorem why_may {p : Pg} (h : whyF p = 0) : mayE p = 0 := by
  by_cases hm : mayE p = 0
  · exact hm
  · rw [whyF, if_pos hm] at h; exact absurd h hm
structure LayIn (p : Pg) (F : Fc) : Prop where
  why : whyF p = 0
  arr : ArrIn p F
  size : up16 (totV (arrV p)) ≤ 8192
  lay : (layF p).1 = ⟨laysV 0 (arrV p), up16 (totV (arrV p))⟩
  names : ((arrV p).map Vr.name).Nodup
theorem lay_in {p : Pg} (h : (layF p).2 = 0) : ∃ F, LayIn p F := by
  have hw : whyF p = 0 := by
    by_cases hw : whyF p = 0
    · exact hw
    · unfold layF at h; rw [if_pos hw] at h; exact absurd h hw
  have hs : ¬ 8192 < up16 (totV (arrV p)) := fun hs => by
    unfold layF at h; rw [if_neg (by simpa using hw), if_pos hs] at h; cases h
  obtain ⟨F, hF⟩ := may_arr (why_may hw)
  refine ⟨F, hw, hF, by omega, ?_, ?_⟩
  · unfold layF; rw [if_neg (by simpa using hw), if_neg hs]
  · rw [hF.arr]; exact may_names (why_may hw) hF.fn
theorem LayIn.sz {p : Pg} {F : Fc} (h : LayIn p F) : ∀ v ∈ arrV p, 1 ≤ v.size ∧ v.size ≤ 512 := by rw [h.arr.arr]; exact h.arr.sz
theorem up16_ge (n : Int) : n ≤ up16 n ∧ up16 n % 16 = 0 := by unfold up16; omega
theorem lay_fits {p : Pg} (h : (layF p).2 = 0) : fitB p (layF p).1 = true := by
  obtain ⟨F, hF⟩ := lay_in h
  have hsz : ∀ v ∈ arrV p, 1 ≤ v.size := fun v hv => (hF.sz v hv).1
  have hb := totV_bnd hF.sz
  have hu := up16_ge (totV (arrV p))
  have h8 := hF.size
  rw [hF.lay]
  unfold fitB sizeOkB
  simp only [Bool.and_eq_true, decide_eq_true_eq]
  refine ⟨⟨⟨hF.why, ⟨by omega, hF.size⟩, hu.2⟩, (laysV_len _ _).symm⟩, ?_⟩
  rw [placesB_iff hF.size hsz]
  refine ⟨fun x hx => ?_, by simp, ?_⟩
  · obtain ⟨h1, h2, h3, h4⟩ := lays_mem hsz x hx
    exact ⟨h1, h2, by omega, by omega⟩
  · have hn : ((laysV 0 (arrV p)).map Pl.name).Nodup := by rw [lays_name]; exact hF.names
    rw [List.Nodup, List.pairwise_map] at hn
    have hz : (laysV 0 (arrV p)).Pairwise (fun x y => Dis y x) := (lays_apart hsz).imp fun h => by unfold Dis; omega
    exact hn.imp₂ (fun _ _ a b => ⟨a, b⟩) hz
end Go.Proofs
namespace Go.Proofs
open Go.Mu
def regV (l : List Rg) : List Vr := l.map fun r => ⟨r.name, 0, r.size, false⟩
def allV (p : Pg) : List Vr := arrV p ++ regV p.regions
def spans (st : Int) (p : Pg) : List (Int × Int) := (laysV 0 (arrV p)).map (fun x => (x.at_ + st, x.at_ + st + 8 * x.size)) ++ p.regions.map fun r => (r.addr, r.addr + 8 * r.size)
theorem find_nodup {α β : Type} [DecidableEq β] (f : α → β) : ∀ {l : List α}, (l.map f).Nodup → ∀ x ∈ l, l.find? (fun y => decide (f y = f x)) = some x
  | [], _, x, hx => by cases hx
  | y :: l, hn, x, hx => by
    rw [List.map_cons, List.nodup_cons] at hn
    rw [List.find?_cons]
    by_cases e : f y = f x
    · rw [decide_eq_true e]
      rcases List.mem_cons.1 hx with rfl | hx
      · rfl
      · exact absurd (e ▸ List.mem_map_of_mem (f := f) hx) hn.1
    · rw [decide_eq_false e]
      rcases List.mem_cons.1 hx with rfl | hx
      · exact absurd rfl e
      · exact find_nodup f hn.2 x hx
theorem onesT_keep : ∀ (l : List ByteArray) (T : Tab) (s : ByteArray), seenB s T = true → seenB s (onesT l T) = true
  | [], T, s, h => h
  | a :: l, T, s, h => by
    refine onesT_keep l (aset a true T) s ?_
    rw [seenF_set]; split
    · rfl
    · exact h
theorem onesT_mem : ∀ (l : List ByteArray) (T : Tab) (s : ByteArray), s ∈ l → seenB s (onesT l T) = true
  | a :: l, T, s, h => by
    rcases List.mem_cons.1 h with rfl | h
    · exact onesT_keep l (aset s true T) s (by rw [seenF_set, if_pos rfl])
    · exact onesT_mem l (aset a true T) s h
theorem onesF_new : ∀ (l : List ByteArray) (T : Tab), onesE l T = 0 → (∀ s ∈ l, seenB s T = false) ∧ l.Nodup
  | [], T, _ => by simp
  | a :: l, T, h => by
    rw [onesE] at h
    obtain ⟨h1, h2⟩ := thenF_inv h
    obtain ⟨i1, i2⟩ := onesF_new l _ h2
    have h1 := mustF_inv h1 (by decide)
    have hs : seenB a T = false := by simp at h1; exact h1.2
    have hw : ∀ w ∈ l, w ≠ a ∧ seenB w T = false := fun w hw => by
      have := i1 w hw
      rw [seenF_set] at this
      split at this
      · cases this
      · exact ⟨by assumption, this⟩
    refine ⟨fun w hw' => ?_, ?_⟩
    · rcases List.mem_cons.1 hw' with rfl | hm
      · exact hs
      · exact (hw w hm).2
    · rw [List.nodup_cons]
      exact ⟨fun hm => (hw a hm).1 rfl, i2⟩
theorem may_regnames {p : Pg} (h : mayE p = 0) : (p.regions.map Rg.name).Nodup := by
  unfold mayE at h
  obtain ⟨_, h⟩ := thenF_inv h
  obtain ⟨h, _⟩ := thenF_inv h
  unfold namesE at h
  exact (onesF_new _ _ (thenF_inv h).1).2
theorem may_novar {p : Pg} {F : Fc} (h : mayE p = 0) (hF : p.funcs[0]? = some F) : ∀ v ∈ stkV F.vars, ∀ r ∈ p.regions, v.name ≠ r.name := by
  unfold mayE at h
  obtain ⟨_, h⟩ := thenF_inv h
  obtain ⟨h, _⟩ := thenF_inv h
  unfold namesE at h
  obtain ⟨_, h⟩ := thenF_inv h
  obtain ⟨_, h⟩ := thenF_inv h
  have := allF_0 h F (List.mem_of_getElem? hF)
  unfold nameF at this
  have := (varsF_new _ _ _ (thenF_inv this).1).1
  intro v hv r hr e
  have h1 := this v (List.mem_append_right _ (List.mem_filter.1 hv).1)
  rw [e, onesT_mem _ _ _ (List.mem_map_of_mem (f := Rg.name) hr)] at h1
  cases h1
theorem boundsF_new : ∀ (l done : List Rg), boundsE done l = 0 → (∀ r ∈ l, boundP r = 0 ∧ ∀ q ∈ done, apartP r q = 0) ∧ l.Pairwise (fun q r => apartP r q = 0)
  | [], _, _ => by simp
  | r :: l, done, h => by
    rw [boundsE] at h
    obtain ⟨h1, h⟩ := thenF_inv h
    obtain ⟨h2, h⟩ := thenF_inv h
    obtain ⟨i1, i2⟩ := boundsF_new l _ h
    refine ⟨fun q hq => ?_, ?_⟩
    · rcases List.mem_cons.1 hq with rfl | hq
      · exact ⟨h1, allF_0 h2⟩
      · exact ⟨(i1 q hq).1, fun x hx => (i1 q hq).2 x (List.mem_append_left _ hx)⟩
    · rw [List.pairwise_cons]
      exact ⟨fun q hq => (i1 q hq).2 r (by simp), i2⟩
def RegIn (r : Rg) : Prop := 0 ≤ r.addr ∧ r.addr % 8 = 0 ∧ r.addr + 8 * r.size ≤ 49152 ∧ 1 ≤ r.size ∧ r.size ≤ 512
theorem may_regs {p : Pg} (h : mayE p = 0) : (∀ r ∈ p.regions, RegIn r) ∧ p.regions.Pairwise (fun q r => q.addr + 8 * q.size ≤ r.addr ∨ r.addr + 8 * r.size ≤ q.addr) := by
  unfold mayE at h
  obtain ⟨h1, h⟩ := thenF_inv h
  obtain ⟨_, h⟩ := thenF_inv h
  obtain ⟨h, _⟩ := thenF_inv h
  have hs := sizes_in h1
  obtain ⟨i1, i2⟩ := boundsF_new _ _ h
  refine ⟨fun r hr => ?_, i2.imp fun {q r} h => ?_⟩
  · have h2 := hs r hr
    have h3 := mustF_inv (i1 r hr).1 (by decide)
    simp only [Bool.and_eq_true, decide_eq_true_eq, beq_iff_eq] at h3
    obtain ⟨⟨h4, h5⟩, h6⟩ := h3
    rw [Int.tmod_eq_emod_of_nonneg h4] at h5
    exact ⟨h4, h5, by omega, h2.1, h2.2⟩
  · have := mustF_inv h (by decide)
    simp only [Bool.or_eq_true, decide_eq_true_eq] at this
    exact this
def SpanIn (x : Int × Int) : Prop := 0 ≤ x.1 ∧ x.2 ≤ 65536 ∧ x.1 % 8 = 0
theorem spans_in {p : Pg} {st : Int} (h : (layF p).2 = 0) (h1 : 49152 ≤ st) (h2 : st % 16 = 0) (h3 : st ≤ 65536 - (layF p).1.size) :
    (∀ x ∈ spans st p, SpanIn x) ∧ (spans st p).Pairwise fun x y => ¬ (y.1 < x.2 ∧ x.1 < y.2) := by
  obtain ⟨F, hF⟩ := lay_in h
  rw [hF.lay] at h3
  simp only at h3
  have hu := up16_ge (totV (arrV p))
  have hsz : ∀ v ∈ arrV p, 1 ≤ v.size := fun v hv => (hF.sz v hv).1
  obtain ⟨r1, r2⟩ := may_regs (why_may hF.why)
  have hA : ∀ x ∈ laysV 0 (arrV p), 0 ≤ x.at_ ∧ x.at_ + 8 * x.size ≤ totV (arrV p) ∧ x.at_ % 8 = 0 := fun x hx => by
    obtain ⟨_, q1, q2, q3⟩ := lays_mem hsz x hx
    exact ⟨q1, by omega, by omega⟩
  unfold spans
  constructor
  · intro x hx
    rcases List.mem_append.1 hx with hx | hx
    · obtain ⟨y, hy, rfl⟩ := List.mem_map.1 hx
      have := hA y hy
      unfold SpanIn; simp only; omega
    · obtain ⟨y, hy, rfl⟩ := List.mem_map.1 hx
      have := r1 y hy
      unfold RegIn at this
      unfold SpanIn; simp only; omega
  · rw [List.pairwise_append]
    refine ⟨?_, ?_, ?_⟩
    · rw [List.pairwise_map]
      exact (lays_apart hsz).imp fun h => by simp only; omega
    · rw [List.pairwise_map]
      exact r2.imp fun h => by simp only; omega
    · intro x hx y hy
      obtain ⟨a, ha, rfl⟩ := List.mem_map.1 hx
      obtain ⟨b, hb, rfl⟩ := List.mem_map.1 hy
      have := hA a ha
      have := r1 b hb
      unfold RegIn at this
      simp only; omega
theorem where_all {p : Pg} (st : Int) (h : (layF p).2 = 0) {i : Nat} (hi : i < (allV p).length) : ∃ at_ ab, whereF p (layF p).1 (allV p)[i].name = (at_, ab, 0) ∧ 0 ≤ at_ ∧ at_ ≤ 65536 ∧ 1 ≤ (allV p)[i].size ∧ (allV p)[i].size ≤ 512 ∧
    (spans st p)[i]? = some (if ab then at_ + st else at_, (if ab then at_ + st else at_) + 8 * (allV p)[i].size) := by
  obtain ⟨F, hF⟩ := lay_in h
  have hm := why_may hF.why
  have hsz : ∀ v ∈ arrV p, 1 ≤ v.size := fun v hv => (hF.sz v hv).1
  obtain ⟨r1, r2⟩ := may_regs hm
  have hfit := lay_fits h
  have hb := totV_bnd hF.sz
  have h8 := hF.size
  have hu := up16_ge (totV (arrV p))
  have hwh : ∀ n, whereF p (layF p).1 n = match (laysV 0 (arrV p)).find? fun x => decide (x.name = n) with
    | some x => (x.at_, true, 0)
    | none => match p.regions.find? fun r => decide (r.name = n) with
      | some r => (r.addr, false, 0)
      | none => (0, false, 8) := fun n => by
    unfold whereF
    rw [if_neg (by simp [hF.why]), if_neg (by simp [hfit]), hF.lay]
    rfl
  have hnm : ((laysV 0 (arrV p)).map Pl.name).Nodup := by rw [lays_name]; exact hF.names
  have hll := laysV_len (arrV p) 0
  by_cases hlt : i < (arrV p).length
  · have hx : i < (laysV 0 (arrV p)).length := by omega
    have e1 : (allV p)[i] = (arrV p)[i] := List.getElem_append_left hlt
    obtain ⟨x, hxe⟩ : ∃ x, x = (laysV 0 (arrV p))[i] := ⟨_, rfl⟩
    have hxm : x ∈ laysV 0 (arrV p) := by rw [hxe]; exact List.getElem_mem hx
    have hn : (arrV p)[i].name = x.name := by
      have : ((laysV 0 (arrV p)).map Pl.name)[i]'(by simpa using hx) = ((arrV p).map Vr.name)[i]'(by simpa using hlt) := by simp only [lays_name]
      rw [List.getElem_map, List.getElem_map, ← hxe] at this
      exact this.symm
    obtain ⟨⟨v, hv, e2, e3⟩, q1, q2, q3⟩ := lays_mem hsz x hxm
    have hvi : v = (arrV p)[i] := mem_name hF.names hv (List.getElem_mem hlt) (by rw [hn, e2])
    have hs := hF.sz v hv
    refine ⟨x.at_, true, ?_, q1, by omega, ?_, ?_, ?_⟩
    · rw [hwh, e1, hn, find_nodup Pl.name hnm x hxm]
    · rw [e1, ← hvi]; exact hs.1
    · rw [e1, ← hvi]; exact hs.2
    · unfold spans
      rw [List.getElem?_append_left (by simpa using hx), List.getElem?_map, List.getElem?_eq_getElem hx, ← hxe, e1, ← hvi, e3]
      rfl
  · have hj : i - (arrV p).length < p.regions.length := by simp only [allV, List.length_append, regV, List.length_map] at hi; omega
    obtain ⟨r, hre⟩ : ∃ r, r = p.regions[i - (arrV p).length] := ⟨_, rfl⟩
    have hrm : r ∈ p.regions := by rw [hre]; exact List.getElem_mem hj
    have e1 : (allV p)[i] = ⟨r.name, 0, r.size, false⟩ := by
      have e0 : (allV p)[i] = (regV p.regions)[i - (arrV p).length]'(by simpa [regV] using hj) := List.getElem_append_right (by omega)
      rw [e0, hre]
      exact List.getElem_map ..
    have hr := r1 r hrm
    unfold RegIn at hr
    have hno : (laysV 0 (arrV p)).find? (fun x => decide (x.name = r.name)) = none := by
      rw [List.find?_eq_none]
      intro x hx
      obtain ⟨⟨v, hv, e2, e3⟩, _⟩ := lays_mem hsz x hx
      have := may_novar hm hF.arr.fn v (by rw [← hF.arr.arr]; exact hv) r hrm
      rw [e2] at this
      simpa using this
    refine ⟨r.addr, false, ?_, hr.1, by omega, ?_, ?_, ?_⟩
    · rw [hwh, e1]
      simp only
      rw [hno, find_nodup Rg.name (may_regnames hm) r hrm]
    · rw [e1]; exact hr.2.2.2.1
    · rw [e1]; exact hr.2.2.2.2
    · unfold spans
      rw [List.getElem?_append_right (by simp; omega), List.length_map, hll, List.getElem?_map, List.getElem?_eq_getElem hj, ← hre, e1]
      rfl
theorem spans_len (st : Int) (p : Pg) : (spans st p).length = (allV p).length := by simp [spans, allV, regV, laysV_len]
end Go.Proofs
