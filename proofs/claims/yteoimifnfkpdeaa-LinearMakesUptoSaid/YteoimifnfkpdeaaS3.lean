/- The document's flat code (2): how many nodes, how deep; which lists of nodes may be. -/
import Derived.Test.YteoimifnfkpdeaaS2
set_option linter.unusedVariables false
set_option linter.unusedSimpArgs false
set_option maxHeartbeats 4000000
set_option maxRecDepth 100000
namespace Go.Proofs
open Go.Mu
theorem count_ok (n : Nat) : ∀ (l : List Node), nodesCount l ≤ n → nodesCount l ≤ 2^40 → ∀ (H : List Blk), ACalls Try.prog 34 [Node.sl l] H (fun e H' => e = .ret (I (nodesCount l)) ∧ H' = H) := by
  induction n with
  | zero =>
    intro l hl hb H
    have : l = [] := List.eq_nil_of_length_eq_zero (by have := nodes_len l; omega)
    subst this
    refine acalls_of_vc (hn := fun _ => false) (od := fun _ => none) Try.func34 rfl (by kernel_rfl) ?_
    simp -dsimp
    refine loop_rule (hn := fun _ => false) (od := fun _ => none) (fun (i : Nat) f H' => H' = H ∧ f 0 = Node.sl [] ∧ f 4 = I 0 ∧ f 3 = I 0) (fun i => 0) (by kernel_rfl) 0 (by simp) ?_
    rintro i f H' ⟨rfl, h0, h4, h3⟩
    simp -dsimp [h0, h3, h4, nodesCount]
  | succ n ih =>
    intro l hl hb H
    refine acalls_of_vc (hn := fun _ => false) (od := fun _ => none) Try.func34 rfl (by kernel_rfl) ?_
    simp -dsimp
    have hlen := nodes_len l
    refine loop_rule (hn := fun _ => false) (od := fun _ => none) (fun (i : Nat) f H' => H' = H ∧ f 0 = Node.sl l ∧ f 4 = I i ∧ f 3 = I ((nodesCount l : Int) - nodesCount (l.drop i)) ∧ i ≤ l.length) (fun i => l.length - i) (by kernel_rfl) 0 (by simp) ?_
    rintro i f H' ⟨rfl, h0, h4, h3, hi⟩
    simp -dsimp [h0, h3, h4]
    refine condVW_introD (fun hlt => ?_) (fun hlt => ?_)
    · have hd := nodesCount_drop hlt
      have hle := nodesCount_le l i
      have hp := node_parts hlt
      rw [Node.count_eq] at hd
      simp -dsimp [h0, h3, h4, List.getElem?_eq_getElem, hlt]
      refine callDW_intro (ih _ (by omega) (by omega) _) ?_
      simp -dsimp [h0, h3, h4, List.getElem?_eq_getElem, hlt]
      refine callDW_intro (ih _ (by omega) (by omega) _) ?_
      simp -dsimp [h0, h3, h4, List.getElem?_eq_getElem, hlt]
      refine callDW_intro (ih _ (by omega) (by omega) _) ?_
      simp -dsimp [h0, h3, h4, List.getElem?_eq_getElem, hlt]
      refine ⟨i + 1, by omega, wrapS (by omega), ?_, by omega⟩
      rw [wrapI (n := _ + 1) (by omega) (by omega), wrapI (n := _ + _ + (nodesCount l[i].ahead : Int)) (by omega) (by omega), wrapI (n := _ + _ + (nodesCount l[i].body : Int)) (by omega) (by omega), wrapI (by omega) (by omega)]
      omega
    · simp -dsimp [h0, h3, h4, drop_end hlt, nodesCount]

/-- The deepest of the first k parts. -/
def deepK (a b e : Nat) : Nat → Nat
  | 0 => 0
  | 1 => a
  | 2 => max a b
  | _ => max a (max b e)
theorem deep_ok (n : Nat) : ∀ (l : List Node), nodesCount l ≤ n → nodesCount l ≤ 2^40 → ∀ (H : List Blk), ACalls Try.prog 33 [Node.sl l] H (fun e H' => e = .ret (I (nodesDeep l)) ∧ H' = H) := by
  induction n with
  | zero =>
    intro l hl hb H
    have : l = [] := List.eq_nil_of_length_eq_zero (by have := nodes_len l; omega)
    subst this
    refine acalls_of_vc (hn := fun _ => false) (od := fun _ => none) Try.func33 rfl (by kernel_rfl) ?_
    simp -dsimp
    refine loop_rule (hn := fun _ => false) (od := fun _ => none) (fun (i : Nat) f H' => H' = H ∧ f 0 = Node.sl [] ∧ f 4 = I 0 ∧ f 3 = I 0) (fun i => 0) (by kernel_rfl) 0 (by simp) ?_
    rintro i f H' ⟨rfl, h0, h4, h3⟩
    simp -dsimp [h0, h3, h4, nodesDeep]
  | succ n ih =>
    intro l hl hb H
    refine acalls_of_vc (hn := fun _ => false) (od := fun _ => none) Try.func33 rfl (by kernel_rfl) ?_
    simp -dsimp
    have hlen := nodes_len l
    refine loop_rule (hn := fun _ => false) (od := fun _ => none) (fun (i : Nat) f H' => H' = H ∧ f 0 = Node.sl l ∧ f 4 = I i ∧ (∃ m : Nat, f 3 = I m ∧ max m (nodesDeep (l.drop i)) = nodesDeep l) ∧ i ≤ l.length) (fun i => l.length - i) (by kernel_rfl) 0 (by simp; exact ⟨0, by simp⟩) ?_
    rintro i f H' ⟨rfl, h0, h4, ⟨m, h3, hm⟩, hi⟩
    simp -dsimp [h0, h3, h4]
    refine condVW_introD (fun hlt => ?_) (fun hlt => ?_)
    · have hp := node_parts hlt
      have hdc := deep_count _ l (Nat.le_refl _)
      have hdr := nodesDeep_drop hlt
      rw [Node.deep_eq] at hdr
      simp -dsimp [h0, h3, h4, List.getElem?_eq_getElem, hlt]
      refine loop_rule (hn := fun _ => false) (od := fun _ => none) (fun (k : Nat) f H2 => H2 = H' ∧ f 0 = Node.sl l ∧ f 4 = I i ∧ f 3 = I m ∧ f 7 = I k ∧ k ≤ 3 ∧ f 6 = .vs 1 [[Node.sl l[i].ahead], [Node.sl l[i].body], [Node.sl l[i].els]] ∧ f 5 = I (1 + deepK (nodesDeep l[i].ahead) (nodesDeep l[i].body) (nodesDeep l[i].els) k : Nat)) (fun k => 3 - k) (by kernel_rfl) 0 (by simp [h0, h3, h4, deepK]) ?_
      rintro k f H2 ⟨rfl, h0, h4, h3, h7, hk, h6, h5⟩
      simp -dsimp [h0, h3, h4, h5, h6, h7]
      have hka : (nodesDeep l[i].ahead) < 2^40 := by omega
      have hkb : (nodesDeep l[i].body) < 2^40 := by omega
      have hke : (nodesDeep l[i].els) < 2^40 := by omega
      refine condVW_introD (fun hklt => ?_) (fun hklt => ?_)
      · have : k = 0 ∨ k = 1 ∨ k = 2 := by omega
        rcases this with rfl | rfl | rfl
        · simp -dsimp [h0, h3, h4, h5, h6, h7]
          refine acallsW_det (ih _ (by omega) (by omega) _) ?_
          simp -dsimp [h0, h3, h4, h5, h6, h7]
          rw [wrapI (n := 1 + (nodesDeep l[i].ahead : Int)) (by omega) (by omega)]
          simp only [deepK] at h5 ⊢
          refine condVW_introD (fun hc => ?_) (fun hc => ?_) <;> simp -dsimp [h0, h3, h4, h5, h6, h7]
          · exact ⟨1, by omega, wrapS (by omega), by omega, by simp only [deepK]⟩
          · exact ⟨1, by omega, wrapS (by omega), by omega, by simp only [deepK]; omega⟩
        · simp -dsimp [h0, h3, h4, h5, h6, h7]
          refine acallsW_det (ih _ (by omega) (by omega) _) ?_
          simp -dsimp [h0, h3, h4, h5, h6, h7]
          rw [wrapI (n := 1 + (nodesDeep l[i].body : Int)) (by omega) (by omega)]
          simp only [deepK] at h5 ⊢
          refine condVW_introD (fun hc => ?_) (fun hc => ?_) <;> simp -dsimp [h0, h3, h4, h5, h6, h7]
          · exact ⟨2, by omega, wrapS (i := 1) (by omega), by omega, by simp only [deepK]; omega⟩
          · exact ⟨2, by omega, wrapS (i := 1) (by omega), by omega, by simp only [deepK]; omega⟩
        · simp -dsimp [h0, h3, h4, h5, h6, h7]
          refine acallsW_det (ih _ (by omega) (by omega) _) ?_
          simp -dsimp [h0, h3, h4, h5, h6, h7]
          rw [wrapI (n := 1 + (nodesDeep l[i].els : Int)) (by omega) (by omega)]
          simp only [deepK] at h5 ⊢
          refine condVW_introD (fun hc => ?_) (fun hc => ?_) <;> simp -dsimp [h0, h3, h4, h5, h6, h7]
          · refine ⟨3, by omega, wrapS (i := 2) (by omega), by omega, ?_⟩; simp only [deepK]; omega
          · refine ⟨3, by omega, wrapS (i := 2) (by omega), by omega, ?_⟩; simp only [deepK]; omega
      · have : k = 3 := by omega
        subst this
        simp -dsimp [h0, h3, h4, h5, h6, h7]
        simp only [deepK] at h5 ⊢
        refine condVW_introD (fun hc => ?_) (fun hc => ?_) <;> simp -dsimp [h0, h3, h4, h5, h6, h7]
        · exact ⟨i + 1, by omega, wrapS (by omega), ⟨1 + max (nodesDeep l[i].ahead) (max (nodesDeep l[i].body) (nodesDeep l[i].els)), by omega, by omega⟩, by omega⟩
        · exact ⟨i + 1, by omega, wrapS (by omega), ⟨m, rfl, by omega⟩, by omega⟩
    · simp -dsimp [h0, h3, h4]
      rw [drop_end hlt] at hm
      simp only [nodesDeep] at hm
      omega
end Go.Proofs
