/- What is laid fits; no two have a name: plain laws. -/
import Derived.Test.YtfoghfmmcogheaaGreatFwSortNtoL4
set_option linter.unusedVariables false
set_option linter.unusedSimpArgs false
set_option maxHeartbeats 4000000
set_option maxRecDepth 100000
namespace Go.Proofs
open Go.Mu
theorem lays_name : ∀ (l : List Vr) (n : Int), (laysV n l).map Pl.name = l.map Vr.name
  | [], _ => rfl
  | v :: l, n => by rw [laysV, List.map_cons, List.map_cons, lays_name l]
theorem lays_mem : ∀ {l : List Vr} {n : Int}, (∀ v ∈ l, 1 ≤ v.size) → ∀ x ∈ laysV n l, (∃ v ∈ l, v.name = x.name ∧ v.size = x.size) ∧ n ≤ x.at_ ∧ x.at_ + 8 * x.size ≤ n + totV l ∧ x.at_ % 8 = n % 8
  | [], n, _, x, hx => by cases hx
  | v :: l, n, hs, x, hx => by
    have h0 := hs v (List.mem_cons_self ..)
    have hs' : ∀ w ∈ l, 1 ≤ w.size := fun w hw => hs w (List.mem_cons_of_mem _ hw)
    have ht : 0 ≤ totV l := by
      clear hx h0 hs
      induction l with
      | nil => exact Int.le_refl _
      | cons w l ih => have := hs' w (List.mem_cons_self ..); have := ih (fun w hw => hs' w (List.mem_cons_of_mem _ hw)); rw [totV]; omega
    rw [laysV] at hx
    rw [totV]
    rcases List.mem_cons.1 hx with rfl | hx
    · exact ⟨⟨v, List.mem_cons_self .., rfl, rfl⟩, Int.le_refl _, by simp only; omega, rfl⟩
    · obtain ⟨⟨w, hw, e⟩, h1, h2, h3⟩ := lays_mem hs' x hx
      exact ⟨⟨w, List.mem_cons_of_mem _ hw, e⟩, by omega, by omega, by omega⟩
theorem lays_apart : ∀ {l : List Vr} {n : Int}, (∀ v ∈ l, 1 ≤ v.size) → (laysV n l).Pairwise (fun x y => x.at_ + 8 * x.size ≤ y.at_)
  | [], n, _ => .nil
  | v :: l, n, hs => by
    rw [laysV, List.pairwise_cons]
    have hs' : ∀ w ∈ l, 1 ≤ w.size := fun w hw => hs w (List.mem_cons_of_mem _ hw)
    exact ⟨fun y hy => (lays_mem hs' y hy).2.1, lays_apart hs'⟩
theorem why_may {p : Pg} (h : whyF p = 0) : mayE p = 0 := by
  by_cases hm : mayE p = 0
  · exact hm
  · rw [whyF, if_pos hm] at h; exact absurd h hm
structure LayIn (p : Pg) (F : Fc) : Prop where
  why : whyF p = 0
  arr : ArrIn p F
  size : up16 (totV (arrV p)) ≤ 8192
  lay : (layF p).1 = ⟨laysV 0 (arrV p), up16 (totV (arrV p))⟩
  names : ((arrV p).map Vr.name).Nodup
theorem lay_in {p : Pg} (h : (layF p).2 = 0) : ∃ F, LayIn p F := by
  have hw : whyF p = 0 := by
    by_cases hw : whyF p = 0
    · exact hw
    · unfold layF at h; rw [if_pos hw] at h; exact absurd h hw
  have hs : ¬ 8192 < up16 (totV (arrV p)) := fun hs => by
    unfold layF at h; rw [if_neg (by simpa using hw), if_pos hs] at h; cases h
  obtain ⟨F, hF⟩ := may_arr (why_may hw)
  refine ⟨F, hw, hF, by omega, ?_, ?_⟩
  · unfold layF; rw [if_neg (by simpa using hw), if_neg hs]
  · rw [hF.arr]; exact may_names (why_may hw) hF.fn
theorem LayIn.sz {p : Pg} {F : Fc} (h : LayIn p F) : ∀ v ∈ arrV p, 1 ≤ v.size ∧ v.size ≤ 512 := by rw [h.arr.arr]; exact h.arr.sz
theorem up16_ge (n : Int) : n ≤ up16 n ∧ up16 n % 16 = 0 := by unfold up16; omega
theorem lay_fits {p : Pg} (h : (layF p).2 = 0) : fitB p (layF p).1 = true := by
  obtain ⟨F, hF⟩ := lay_in h
  have hsz : ∀ v ∈ arrV p, 1 ≤ v.size := fun v hv => (hF.sz v hv).1
  have hb := totV_bnd hF.sz
  have hu := up16_ge (totV (arrV p))
  have h8 := hF.size
  rw [hF.lay]
  unfold fitB sizeOkB
  simp only [Bool.and_eq_true, decide_eq_true_eq]
  refine ⟨⟨⟨hF.why, ⟨by omega, hF.size⟩, hu.2⟩, (laysV_len _ _).symm⟩, ?_⟩
  rw [placesB_iff hF.size hsz]
  refine ⟨fun x hx => ?_, by simp, ?_⟩
  · obtain ⟨h1, h2, h3, h4⟩ := lays_mem hsz x hx
    exact ⟨h1, h2, by omega, by omega⟩
  · have hn : ((laysV 0 (arrV p)).map Pl.name).Nodup := by rw [lays_name]; exact hF.names
    rw [List.Nodup, List.pairwise_map] at hn
    have hz : (laysV 0 (arrV p)).Pairwise (fun x y => Dis y x) := (lays_apart hsz).imp fun h => by unfold Dis; omega
    exact hn.imp₂ (fun _ _ a b => ⟨a, b⟩) hz
end Go.Proofs
