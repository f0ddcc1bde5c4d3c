/- Lines made of nodes, by the document. -/
import Derived.Test.YteoimifnfkpdeaaS8
set_option linter.unusedVariables false
set_option linter.unusedSimpArgs false
set_option maxHeartbeats 4000000
set_option maxRecDepth 100000
namespace Go.Proofs
open Go.Mu
abbrev rBox (k : Nat) (es : List (List AV)) (b : Int) : Blk := .box 105 [ownS k es, I b]
theorem under_rBox {n k : Nat} (h : k < n) (es : List (List AV)) (b : Int) : (rBox k es b).under n = true := by simp [Blk.under, underL, under_ownS _ _ _ h, AV.under]
theorem rnodes_call (n : Nat) : ∀ (l : List Node), nodesCount l ≤ n → nodesCount l ≤ 2^36 → ∀ {H : List Blk} {a k : Nat} {es : List (List AV)} {ls : List Line} {b : Int} {lab : Nat} {L : List Blk} {R : AE → List Blk → Prop} {w : Wit R},
    a < H.length → k < H.length → a ≠ k → es = ls.map Line.cells → b = lab → ls.length + 5 * nodesCount l ≤ 2^39 → lab + 2 * nodesCount l ≤ 2^44 →
    R (.ret (.tup [])) (set2 H a (rBox k ((ls ++ (nodesLines l lab).1).map Line.cells) (nodesLines l lab).2) k (ownB 45 11 ((ls ++ (nodesLines l lab).1).map Line.cells)) ++ L) →
    ACallsW Try.prog 43 [.bp a 0, Node.sl l] (set2 H a (rBox k es b) k (ownB 45 11 es) ++ L) R w := by
  induction n with
  | zero =>
    intro l hl hb H a k es ls b lab L R w ha hk hak hes hbl hls hlab h1
    have : l = [] := List.eq_nil_of_length_eq_zero (by have := nodes_len l; omega)
    subst this; subst hes; subst hbl
    refine acalls_of_vc (hn := fun _ => false) (od := fun _ => none) Try.func43 rfl (by kernel_rfl) ?_
    simp -dsimp
    refine loop_rule (hn := fun _ => false) (od := fun _ => none) (fun (i : Nat) f H' => H' = set2 H a (rBox k (ls.map Line.cells) lab) k (ownB 45 11 (ls.map Line.cells)) ++ L ∧ f 1 = Node.sl [] ∧ f 4 = I 0) (fun i => 0) (by kernel_rfl) 0 (by simp) ?_
    rintro i f H' ⟨rfl, h0, h7⟩
    have := h1
    simp only [nodesLines, List.append_nil] at this
    simp -dsimp [h0, h7]
    exact this
  | succ n ih =>
    intro l hl hb H a k es ls b lab L R w ha hk hak hes hbl hls hlab h1
    subst hes; subst hbl
    refine acalls_tidy (acalls_of_vc (hn := fun d => d == 32 || d == 69 || d == 86 || d == 101 || d == 129 || d == 146 || d == 163) (od := fun _ => none) Try.func43 rfl (by kernel_rfl) ?_)
    have under_row : ∀ n (l1 : List Line), (ownB 45 11 (l1.map Line.cells)).under n = true := fun n l1 => under_mkRow n l1
    have hu : ∀ (l1 : List Line) (b1 : Int), underH (set2 H a (rBox k (ls.map Line.cells) lab) k (ownB 45 11 (ls.map Line.cells)) ++ L).length (set2 H a (rBox k (ls.map Line.cells) lab) k (ownB 45 11 (ls.map Line.cells)) ++ L) = true → underH (set2 H a (rBox k (l1.map Line.cells) b1) k (ownB 45 11 (l1.map Line.cells)) ++ L).length (set2 H a (rBox k (l1.map Line.cells) b1) k (ownB 45 11 (l1.map Line.cells)) ++ L) = true := by
      intro l1 b1 h3
      have e : (set2 H a (rBox k (ls.map Line.cells) lab) k (ownB 45 11 (ls.map Line.cells)) ++ L).length = (set2 H a (rBox k (l1.map Line.cells) b1) k (ownB 45 11 (l1.map Line.cells)) ++ L).length := by simp
      rw [e] at h3
      exact underH_m2 ha hk hak h3 (under_rBox (by simp; omega) _ _) (under_row _ _)
    have retleaf : Hid (∀ (l1 : List Line) (b1 : Int) (G : List Blk), l1 = ls ++ (nodesLines l lab).1 → b1 = (nodesLines l lab).2 → Tidy (set2 H a (rBox k (ls.map Line.cells) lab) k (ownB 45 11 (ls.map Line.cells)) ++ L) R (.ret (.tup [])) (set2 H a (rBox k (l1.map Line.cells) b1) k (ownB 45 11 (l1.map Line.cells)) ++ (L ++ G))) := ⟨fun l1 b1 G e1 e2 => by
      rw [← List.append_assoc]
      refine tidy_to (by simp) (hu l1 b1) rfl ?_
      rw [e1, e2]
      exact h1⟩
    clear h1
    have g1 := fun X Y L => m2_getA ha hak X Y L
    have gB := fun X Y L => m2_getB (a := a) hk X Y L
    have g2 := fun X Y L i => m2_getN (H := H) (a := a) (b := k) X Y L i
    have g3 := fun X Y L => m2_getE (H := H) (a := a) (b := k) X Y L
    have s1 := fun X Y Z L => m2_setA ha hak X Y Z L
    have sB := fun X Y Z L => m2_setB (a := a) hk X Y Z L
    have s2 := fun X Y Z L i => m2_setN (H := H) (a := a) (b := k) X Y Z L i
    have s3 := fun X Y Z L => m2_setE (H := H) (a := a) (b := k) X Y Z L
    have hlen := nodes_len l
    simp -dsimp
    refine loop_rule (hn := fun d => d == 32 || d == 69 || d == 86 || d == 101 || d == 129 || d == 146 || d == 163) (od := fun _ => none) (fun (i : Nat) f H' => (∃ (li : List Line) (bi : Nat) (G : List Blk), H' = set2 H a (rBox k (li.map Line.cells) bi) k (ownB 45 11 (li.map Line.cells)) ++ (L ++ G) ∧ li ++ (nodesLines (l.drop i) bi).1 = ls ++ (nodesLines l lab).1 ∧ (nodesLines (l.drop i) bi).2 = (nodesLines l lab).2 ∧ li.length + 5 * nodesCount (l.drop i) ≤ 2^39 ∧ bi + 2 * nodesCount (l.drop i) ≤ 2^44) ∧ f 0 = .bp a 0 ∧ f 1 = Node.sl l ∧ f 4 = I i ∧ i ≤ l.length) (fun i => l.length - i) (by kernel_rfl) 0 (by refine ⟨⟨ls, lab, [], by simp, rfl, rfl, hls, hlab⟩, ?_⟩; simp) ?_
    rintro i f H' ⟨⟨li, bi, G, rfl, he1, he2, hli, hbi⟩, f0, f1, f4, hi⟩
    simp -dsimp [f0, f1, f4]
    refine condVW_introD (fun hlt => ?_) (fun hlt => ?_)
    · have hp := node_parts hlt
      have hcd := nodesCount_drop hlt
      rw [Node.count_eq] at hcd
      obtain ⟨X, b', hXb⟩ : ∃ X b', l[i].lines bi = (X, b') := ⟨_, _, rfl⟩
      have hld := nodesLines_drop hlt bi
      rw [hld] at he1 he2
      simp only [hXb] at he1 he2
      rw [← List.append_assoc] at he1
      have hb'le := lines_le _ [l[i]] (Nat.le_refl _) bi
      simp only [nodesLines, hXb, nodesCount, Node.count_eq, List.append_nil, Nat.add_zero] at hb'le
      have next : Hid (∀ (l1 : List Line) (b1 : Int) (G' : List Blk), l1 = li ++ X → b1 = b' → ∃ y, l.length - y < l.length - i ∧ (∃ li_1 bi_1, (∃ x, set2 H a (rBox k (l1.map Line.cells) b1) k (ownB 45 11 (l1.map Line.cells)) ++ (L ++ G') = set2 H a (rBox k (li_1.map Line.cells) ((bi_1 : Nat) : Int)) k (ownB 45 11 (li_1.map Line.cells)) ++ (L ++ x)) ∧
          li_1 ++ (nodesLines (List.drop y l) bi_1).fst = ls ++ (nodesLines l lab).fst ∧ (nodesLines (List.drop y l) bi_1).snd = (nodesLines l lab).snd ∧ li_1.length + 5 * nodesCount (List.drop y l) ≤ 549755813888 ∧ bi_1 + 2 * nodesCount (List.drop y l) ≤ 17592186044416) ∧
          IntKind.i64.wrap ((i : Int) + 1) = (y : Int) ∧ y ≤ l.length) := ⟨fun l1 b1 G' e1 e2 => by
        subst e1; subst e2
        exact ⟨i + 1, by omega, ⟨_, _, ⟨_, rfl⟩, he1, he2, by simp only [List.length_append]; omega, by omega⟩, wrapS (by omega), by omega⟩⟩
      replace he1 := Hid.mk he1
      replace he2 := Hid.mk he2
      replace hld := Hid.mk hld
      have hw1 : IntKind.i64.wrap ((bi : Int) + 1) = (bi : Int) + 1 := wrapI (by omega) (by omega)
      have hw2 : IntKind.i64.wrap ((bi : Int) + 2) = (bi : Int) + 2 := wrapI (by omega) (by omega)
      simp -dsimp [f0, f1, f4, List.getElem?_eq_getElem, hlt, g1, g2, g3, s1, s2, s3]
      refine condVW_introE (fun hk1 => ?_) (fun hk1 hk1' _ => ?_)
      · have hX := hXb
        rw [Node.lines_ins l[i] bi hk1] at hX
        cases hX
        simp -dsimp [f0, f1, f4, g1, g2, g3, s1, s2, s3, hk1]
        refine appendVW_own (gB _ _ _) (by simp; omega) (by simp; omega) ?_
        simp -dsimp [f0, f1, f4, g1, g2, g3, s1, sB, s2, s3, hk1]
        have := fun G' => next.out (li ++ [⟨1, l[i].ins, 0, 0⟩]) bi G' rfl rfl
        simp only [List.map_append, List.map_cons, List.map_nil, Line.cells] at this
        exact this _
      · simp -dsimp [f0, f1, f4, g1, g2, g3, s1, s2, s3]
        refine condVW_introE (fun hk2 => ?_) (fun hk2 hk2' _ => ?_)
        · have hX := hXb
          rw [Node.lines_if l[i] bi hk2] at hX
          obtain ⟨A, bA, hA⟩ : ∃ A b, nodesLines l[i].ahead bi = (A, b) := ⟨_, _, rfl⟩
          obtain ⟨B, bB, hB⟩ : ∃ B b, nodesLines l[i].body (bA + 2) = (B, b) := ⟨_, _, rfl⟩
          obtain ⟨E, bE, hE⟩ : ∃ E b, nodesLines l[i].els bB = (E, b) := ⟨_, _, rfl⟩
          simp only [hA, hB, hE, Prod.mk.injEq] at hX
          obtain ⟨hX, rfl⟩ := hX
          have hbA := lines_le _ l[i].ahead (Nat.le_refl _) bi
          have hbB := lines_le _ l[i].body (Nat.le_refl _) (bA + 2)
          have hbE := lines_le _ l[i].els (Nat.le_refl _) bB
          rw [hA] at hbA; rw [hB] at hbB; rw [hE] at hbE
          simp only at hbA hbB hbE
          have hwA1 : IntKind.i64.wrap ((bA : Int) + 1) = (bA : Int) + 1 := wrapI (by omega) (by omega)
          have hwA2 : IntKind.i64.wrap ((bA : Int) + 2) = (bA : Int) + 2 := wrapI (by omega) (by omega)
          have ihA := @ih l[i].ahead (by omega) (by omega)
          have ihB := @ih l[i].body (by omega) (by omega)
          have ihE := @ih l[i].els (by omega) (by omega)
          simp -dsimp [f0, f1, f4, g1, g2, g3, s1, sB, s2, s3, hA, hB, hE, hk2, hw1, hw2, hwA1, hwA2]
          refine ihA (ls := li) (lab := bi) ha hk hak rfl rfl (by omega) (by omega) ?_
          simp -dsimp [f0, f1, f4, g1, g2, g3, s1, sB, s2, s3, hA, hB, hE, hw1, hw2, hwA1, hwA2]
          refine appendVW_own (gB _ _ _) (by simp; omega) (by simp; omega) ?_
          simp -dsimp [f0, f1, f4, g1, g2, g3, s1, sB, s2, s3, hA, hB, hE, hw1, hw2, hwA1, hwA2]
          refine ihB (ls := li ++ A ++ [lineOf 4 l[i].cond bA]) (lab := bA + 2) ha hk hak (by simp) (by simp) (by simp only [List.length_append, List.length_cons, List.length_nil]; omega) (by omega) ?_
          simp -dsimp [f0, f1, f4, g1, g2, g3, s1, sB, s2, s3, hA, hB, hE, hw1, hw2, hwA1, hwA2]
          refine appendVW_own (gB _ _ _) (by simp; omega) (by simp; omega) ?_
          simp -dsimp [f0, f1, f4, g1, g2, g3, s1, sB, s2, s3, hA, hB, hE, hw1, hw2, hwA1, hwA2]
          refine ihE (ls := li ++ A ++ [lineOf 4 l[i].cond bA] ++ B ++ [lineOf 3 0 ((bA : Int) + 1), lineOf 2 0 bA]) (lab := bB) ha hk hak (by simp) (by simp) (by simp only [List.length_append, List.length_cons, List.length_nil]; omega) (by omega) ?_
          simp -dsimp [f0, f1, f4, g1, g2, g3, s1, sB, s2, s3, hA, hB, hE, hw1, hw2, hwA1, hwA2]
          refine appendVW_own (gB _ _ _) (by simp; omega) (by simp; omega) ?_
          simp -dsimp [f0, f1, f4, g1, g2, g3, s1, sB, s2, s3, hA, hB, hE, hw1, hw2, hwA1, hwA2]
          have := fun G' => next.out (li ++ X) bE G' rfl rfl
          rw [← hX] at this
          simp at this

          exact this _
        · simp -dsimp [f0, f1, f4, g1, g2, g3, s1, s2, s3, hw1, hw2]
          have hX := hXb
          rw [Node.lines_loop l[i] bi hk1 hk2] at hX
          obtain ⟨A, bA, hA⟩ : ∃ A b, nodesLines l[i].ahead (bi + 2) = (A, b) := ⟨_, _, rfl⟩
          obtain ⟨B, bB, hB⟩ : ∃ B b, nodesLines l[i].body bA = (B, b) := ⟨_, _, rfl⟩
          simp only [hA, hB, Prod.mk.injEq] at hX
          obtain ⟨hX, rfl⟩ := hX
          have hbA := lines_le _ l[i].ahead (Nat.le_refl _) (bi + 2)
          have hbB := lines_le _ l[i].body (Nat.le_refl _) bA
          rw [hA] at hbA; rw [hB] at hbB
          simp only at hbA hbB
          have hwA1 : True := trivial
          have hwA2 : True := trivial
          have ihA := @ih l[i].ahead (by omega) (by omega)
          have ihB := @ih l[i].body (by omega) (by omega)
          refine appendVW_own (gB _ _ _) (by simp; omega) (by simp; omega) ?_
          simp -dsimp [f0, f1, f4, g1, g2, g3, s1, sB, s2, s3, hA, hB, hw1, hw2, hwA1, hwA2]
          refine ihA (ls := li ++ [lineOf 2 0 bi]) (lab := bi + 2) ha hk hak (by simp) (by simp) (by simp only [List.length_append, List.length_cons, List.length_nil]; omega) (by omega) ?_
          simp -dsimp [f0, f1, f4, g1, g2, g3, s1, sB, s2, s3, hA, hB, hw1, hw2, hwA1, hwA2]
          refine appendVW_own (gB _ _ _) (by simp; omega) (by simp; omega) ?_
          simp -dsimp [f0, f1, f4, g1, g2, g3, s1, sB, s2, s3, hA, hB, hw1, hw2, hwA1, hwA2]
          refine ihB (ls := li ++ [lineOf 2 0 bi] ++ A ++ [lineOf 4 l[i].cond ((bi : Int) + 1)]) (lab := bA) ha hk hak (by simp) (by simp) (by simp only [List.length_append, List.length_cons, List.length_nil]; omega) (by omega) ?_
          simp -dsimp [f0, f1, f4, g1, g2, g3, s1, sB, s2, s3, hA, hB, hw1, hw2, hwA1, hwA2]
          refine appendVW_own (gB _ _ _) (by simp; omega) (by simp; omega) ?_
          simp -dsimp [f0, f1, f4, g1, g2, g3, s1, sB, s2, s3, hA, hB, hw1, hw2, hwA1, hwA2]
          have := fun G' => next.out (li ++ X) bB G' rfl rfl
          rw [← hX] at this
          simp at this

          exact this _
    · rw [drop_end hlt] at he1 he2
      simp only [nodesLines, List.append_nil] at he1 he2
      simp -dsimp [f0, f1, f4]
      exact retleaf.out _ _ _ he1 (by rw [he2])
end Go.Proofs
