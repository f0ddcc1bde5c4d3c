/- Lines made of nodes, by the program. -/
import Derived.Test.YteoimifnfkpdeaaS7
set_option linter.unusedVariables false
set_option linter.unusedSimpArgs false
set_option maxHeartbeats 4000000
set_option maxRecDepth 100000
namespace Go.Proofs
open Go.Mu
theorem nodes_call (vars : Int) (n : Nat) : ∀ (l : List Node) (deep : Int), nodesCount l ≤ n → nodesCount l ≤ 2^40 → nodesOk vars deep l = true → ∀ {H : List Blk} {a k : Nat} {ls : List Line} {lab : Nat} {L : List Blk} {R : AE → List Blk → Prop} {w : Wit R},
    a < H.length → k < H.length → a ≠ k → ls.length ≤ 65536 → lab + 2 * nodesCount l ≤ 2^44 →
    (ls.length + (nodesLines l lab).1.length ≤ 65536 → R (.ret (.tup [])) (set2 H a (mkBox 96 k (ls ++ (nodesLines l lab).1) (nodesLines l lab).2) k (mkRow (ls ++ (nodesLines l lab).1)) ++ L)) →
    (65536 < ls.length + (nodesLines l lab).1.length → ∀ (ls' : List Line) (lab' : Nat), R (.pan refV) (set2 H a (mkBox 96 k ls' lab') k (mkRow ls') ++ L)) →
    ACallsW Try.prog 37 [.bp a 0, Node.sl l] (set2 H a (mkBox 96 k ls lab) k (mkRow ls) ++ L) R w := by
  induction n with
  | zero =>
    intro l deep hl hb hok H a k ls lab L R w ha hk hak hls hlab h1 h2
    have : l = [] := List.eq_nil_of_length_eq_zero (by have := nodes_len l; omega)
    subst this
    refine acalls_of_vc (hn := fun _ => false) (od := fun _ => none) Try.func37 rfl (by kernel_rfl) ?_
    simp -dsimp
    refine loop_rule (hn := fun _ => false) (od := fun _ => none) (fun (i : Nat) f H' => H' = set2 H a (mkBox 96 k ls lab) k (mkRow ls) ++ L ∧ f 10 = Node.sl [] ∧ f 11 = I 0 ∧ f 12 = I 0) (fun i => 0) (by kernel_rfl) 0 (by simp) ?_
    rintro i f H' ⟨rfl, h0, h7, h8⟩
    have := h1 (by simpa [nodesLines] using hls)
    simp only [nodesLines, List.append_nil] at this
    simp -dsimp [h0, h7, h8]
    exact this
  | succ n ih =>
    intro l deep hl hb hok H a k ls lab L R w ha hk hak hls hlab h1 h2
    refine acalls_tidy (acalls_of_vc (hn := fun _ => false) (od := fun _ => none) Try.func37 rfl (by kernel_rfl) ?_)
    have hu : ∀ (l1 : List Line) (b1 : Nat), underH (set2 H a (mkBox 96 k ls lab) k (mkRow ls) ++ L).length (set2 H a (mkBox 96 k ls lab) k (mkRow ls) ++ L) = true → underH (set2 H a (mkBox 96 k l1 b1) k (mkRow l1) ++ L).length (set2 H a (mkBox 96 k l1 b1) k (mkRow l1) ++ L) = true := by
      intro l1 b1 h3
      have e : (set2 H a (mkBox 96 k ls lab) k (mkRow ls) ++ L).length = (set2 H a (mkBox 96 k l1 b1) k (mkRow l1) ++ L).length := by simp
      rw [e] at h3
      exact underH_m2 ha hk hak h3 (under_mkBox (by simp; omega) _ _) (under_mkRow _ _)
    have panleaf : Hid (65536 < ls.length + (nodesLines l lab).1.length → ∀ (l1 : List Line) (b1 : Nat) (G : List Blk), Tidy (set2 H a (mkBox 96 k ls lab) k (mkRow ls) ++ L) R (.pan refV) (set2 H a (mkBox 96 k l1 b1) k (mkRow l1) ++ (L ++ G))) := ⟨fun hlt l1 b1 G => by
      rw [← List.append_assoc]
      exact tidy_toP (by simp) (hu l1 b1) rfl (h2 hlt l1 b1)⟩
    have retleaf : Hid (∀ (l1 : List Line) (b1 : Nat) (G : List Blk), l1 = ls ++ (nodesLines l lab).1 → b1 = (nodesLines l lab).2 → l1.length ≤ 65536 → Tidy (set2 H a (mkBox 96 k ls lab) k (mkRow ls) ++ L) R (.ret (.tup [])) (set2 H a (mkBox 96 k l1 b1) k (mkRow l1) ++ (L ++ G))) := ⟨fun l1 b1 G e1 e2 hlt => by
      rw [← List.append_assoc]
      refine tidy_to (by simp) (hu l1 b1) rfl ?_
      rw [e1, e2]
      exact h1 (by rw [e1] at hlt; simpa using hlt)⟩
    clear h1 h2
    have g1 := fun X Y L => m2_getA ha hak X Y L
    have g2 := fun X Y L i => m2_getN (H := H) (a := a) (b := k) X Y L i
    have g3 := fun X Y L => m2_getE (H := H) (a := a) (b := k) X Y L
    have s2 := fun X Y Z L i => m2_setN (H := H) (a := a) (b := k) X Y Z L i
    have s3 := fun X Y Z L => m2_setE (H := H) (a := a) (b := k) X Y Z L
    have hlen := nodes_len l
    simp -dsimp
    refine loop_rule (hn := fun _ => false) (od := fun _ => none) (fun (i : Nat) f H' => (∃ (li : List Line) (bi : Nat) (G : List Blk), H' = set2 H a (mkBox 96 k li bi) k (mkRow li) ++ (L ++ G) ∧ li ++ (nodesLines (l.drop i) bi).1 = ls ++ (nodesLines l lab).1 ∧ (nodesLines (l.drop i) bi).2 = (nodesLines l lab).2 ∧ li.length ≤ 65536 ∧ bi + 2 * nodesCount (l.drop i) ≤ 2^44) ∧ f 0 = .bp a 0 ∧ f 10 = Node.sl l ∧ f 11 = I l.length ∧ f 12 = I i ∧ i ≤ l.length ∧ nodesOk vars deep (l.drop i) = true) (fun i => l.length - i) (by kernel_rfl) 0 (by refine ⟨⟨ls, lab, [], by simp, rfl, rfl, hls, hlab⟩, ?_⟩; simp [hok]) ?_
    rintro i f H' ⟨⟨li, bi, G, rfl, he1, he2, hli, hbi⟩, f0, f10, f11, f12, hi, hoki⟩
    simp -dsimp [f0, f10, f11, f12]
    refine condVW_introD (fun hlt => ?_) (fun hlt => ?_)
    · have hp := node_parts hlt
      have hcd := nodesCount_drop hlt
      rw [Node.count_eq] at hcd
      have hd := nodesOk_drop (vars := vars) (deep := deep) hlt
      rw [hoki, Node.ok_eq] at hd
      obtain ⟨X, b', hXb⟩ : ∃ X b', l[i].lines bi = (X, b') := ⟨_, _, rfl⟩
      have hld := nodesLines_drop hlt bi
      have hlenE := congrArg List.length he1
      rw [hld] at he1 he2 hlenE
      simp only [hXb] at he1 he2 hlenE
      rw [← List.append_assoc] at he1
      simp only [List.length_append] at hlenE
      have hb'le : b' + 2 * nodesCount (l.drop (i + 1)) ≤ 2^44 := by
        have := (lines_le _ [l[i]] (Nat.le_refl _) bi).2.1
        simp only [nodesLines, hXb, nodesCount, Node.count_eq] at this
        omega
      have hoknext : nodesOk vars deep (l.drop (i + 1)) = true := by
        have := hd.symm
        simp only [Bool.and_eq_true] at this
        exact this.2
      have next : Hid (∀ (l1 : List Line) (b1 : Nat) (G' : List Blk), l1 = li ++ X → b1 = b' → l1.length ≤ 65536 → ∃ y, l.length - y < l.length - i ∧ (∃ li_1 bi_1, (∃ x, set2 H a (mkBox 96 k l1 b1) k (mkRow l1) ++ (L ++ G') = set2 H a (mkBox 96 k li_1 bi_1) k (mkRow li_1) ++ (L ++ x)) ∧
          li_1 ++ (nodesLines (List.drop y l) bi_1).fst = ls ++ (nodesLines l lab).fst ∧ (nodesLines (List.drop y l) bi_1).snd = (nodesLines l lab).snd ∧ li_1.length ≤ 65536 ∧ bi_1 + 2 * nodesCount (List.drop y l) ≤ 17592186044416) ∧
          IntKind.i64.wrap ((i : Int) + 1) = (y : Int) ∧ y ≤ l.length ∧ nodesOk vars deep (List.drop y l) = true) := ⟨fun l1 b1 G' e1 e2 e3 => by
        subst e1; subst e2
        exact ⟨i + 1, by omega, ⟨_, _, ⟨_, rfl⟩, he1, he2, e3, by omega⟩, wrapS (by omega), by omega, hoknext⟩⟩
      replace he1 := Hid.mk he1
      replace he2 := Hid.mk he2
      replace hld := Hid.mk hld
      have hsub : l[i].kind ≠ 1 → (l[i].kind = 2 ∨ l[i].kind = 3) ∧ nodesOk vars (deep + 1) l[i].ahead = true ∧ nodesOk vars (deep + 1) l[i].body = true ∧ nodesOk vars (deep + 1) l[i].els = true := by
        intro h1
        rw [if_neg h1] at hd
        have := hd.symm
        simp only [Bool.and_eq_true] at this
        have h2 := this.1.2
        split at h2
        · rename_i h3; simp only [Bool.and_eq_true] at h2; exact ⟨h3, h2.1.1.2, h2.1.2, h2.2⟩
        · cases h2
      clear hd
      simp -dsimp [f0, f10, f11, f12, List.getElem?_eq_getElem, hlt, g1, g2, g3, s2, s3]
      refine condVW_introE (fun hk1 => ?_) (fun hk1 hk1' _ => ?_)
      · have hX := hXb
        rw [Node.lines_ins l[i] bi hk1] at hX
        cases hX
        have hk2 : True := trivial
        have hX : True := trivial
        simp -dsimp [f0, f10, f11, f12, g1, g2, g3, s2, s3, hk1]
        refine line_call (x := ⟨1, l[i].ins, 0, 0⟩) ha hk hak hli (fun hc => ?_) (fun hc => ?_)
        · simp -dsimp [f0, f10, f11, f12]
          exact next.out _ _ _ rfl rfl (by simp; omega)
        · simp -dsimp
          exact panleaf.out (by simp at hlenE; omega) _ _ _
      · obtain ⟨hk23, hoka, hokb, hoke⟩ := hsub hk1
        simp -dsimp [f0, f10, f11, f12, g1, g2, g3, s2, s3]
        refine condVW_introE (fun hk2 => ?_) (fun hk2 hk2' _ => ?_)
        · have hX := hXb
          rw [Node.lines_if l[i] bi hk2] at hX
          obtain ⟨A, bA, hA⟩ : ∃ A b, nodesLines l[i].ahead bi = (A, b) := ⟨_, _, rfl⟩
          obtain ⟨B, bB, hB⟩ : ∃ B b, nodesLines l[i].body (bA + 2) = (B, b) := ⟨_, _, rfl⟩
          obtain ⟨E, bE, hE⟩ : ∃ E b, nodesLines l[i].els bB = (E, b) := ⟨_, _, rfl⟩
          simp only [hA, hB, hE, Prod.mk.injEq] at hX
          obtain ⟨hX, rfl⟩ := hX
          have hbA := lines_le _ l[i].ahead (Nat.le_refl _) bi
          have hbB := lines_le _ l[i].body (Nat.le_refl _) (bA + 2)
          have hbE := lines_le _ l[i].els (Nat.le_refl _) bB
          rw [hA] at hbA; rw [hB] at hbB; rw [hE] at hbE
          have hXl := congrArg List.length hX
          simp only [List.length_append, List.length_cons, List.length_nil] at hXl
          have ihA := @ih l[i].ahead (deep + 1) (by omega) (by omega) hoka
          have ihB := @ih l[i].body (deep + 1) (by omega) (by omega) hokb
          have ihE := @ih l[i].els (deep + 1) (by omega) (by omega) hoke
          simp -dsimp [f0, f10, f11, f12, g1, g2, g3, s2, s3, hk2]
          refine ihA ha hk hak hli (by omega) (fun hc => ?_) (fun hc _ _ => ?_)
          rotate_left
          · simp -dsimp; exact panleaf.out (by simp only [List.length_append, List.length_cons, List.length_nil, hA, hB, hE] at hc; omega) _ _ _
          simp -dsimp [f0, f10, f11, f12, g1, g2, g3, s2, s3]
          simp only [List.length_append, List.length_cons, List.length_nil, hA, hB, hE] at hc ⊢
          refine label_call (lab := bA) ha hk hak (by omega) ?_
          simp -dsimp [f0, f10, f11, f12, g1, g2, g3, s2, s3]
          refine label_call (lab := bA + 1) ha hk hak (by omega) ?_
          simp -dsimp [f0, f10, f11, f12, g1, g2, g3, s2, s3]
          refine line_call (x := lineOf 4 l[i].cond bA) ha hk hak (by simp only [List.length_append, List.length_cons, List.length_nil]; omega) (fun hc => ?_) (fun hc => ?_)
          rotate_left
          · simp -dsimp; exact panleaf.out (by simp only [List.length_append, List.length_cons, List.length_nil, hA, hB, hE] at hc; omega) _ _ _
          simp -dsimp [f0, f10, f11, f12, g1, g2, g3, s2, s3]
          simp only [List.length_append, List.length_cons, List.length_nil, hA, hB, hE] at hc ⊢
          refine ihB ha hk hak (by simp only [List.length_append, List.length_cons, List.length_nil]; omega) (by omega) (fun hc => ?_) (fun hc _ _ => ?_)
          rotate_left
          · simp -dsimp; exact panleaf.out (by simp only [List.length_append, List.length_cons, List.length_nil, hA, hB, hE] at hc; omega) _ _ _
          simp -dsimp [f0, f10, f11, f12, g1, g2, g3, s2, s3]
          simp only [List.length_append, List.length_cons, List.length_nil, hA, hB, hE] at hc ⊢
          refine line_call (x := lineOf 3 0 ((bA : Int) + 1)) ha hk hak (by simp only [List.length_append, List.length_cons, List.length_nil]; omega) (fun hc => ?_) (fun hc => ?_)
          rotate_left
          · simp -dsimp; exact panleaf.out (by simp only [List.length_append, List.length_cons, List.length_nil, hA, hB, hE] at hc; omega) _ _ _
          simp -dsimp [f0, f10, f11, f12, g1, g2, g3, s2, s3]
          simp only [List.length_append, List.length_cons, List.length_nil, hA, hB, hE] at hc ⊢
          refine line_call (x := lineOf 2 0 bA) ha hk hak (by simp only [List.length_append, List.length_cons, List.length_nil]; omega) (fun hc => ?_) (fun hc => ?_)
          rotate_left
          · simp -dsimp; exact panleaf.out (by simp only [List.length_append, List.length_cons, List.length_nil, hA, hB, hE] at hc; omega) _ _ _
          simp -dsimp [f0, f10, f11, f12, g1, g2, g3, s2, s3]
          simp only [List.length_append, List.length_cons, List.length_nil, hA, hB, hE] at hc ⊢
          refine ihE ha hk hak (by simp only [List.length_append, List.length_cons, List.length_nil]; omega) (by omega) (fun hc => ?_) (fun hc _ _ => ?_)
          rotate_left
          · simp -dsimp; exact panleaf.out (by simp only [List.length_append, List.length_cons, List.length_nil, hA, hB, hE] at hc; omega) _ _ _
          simp -dsimp [f0, f10, f11, f12, g1, g2, g3, s2, s3]
          simp only [List.length_append, List.length_cons, List.length_nil, hA, hB, hE] at hc ⊢
          refine line_call (x := lineOf 2 0 ((bA : Int) + 1)) ha hk hak (by simp only [List.length_append, List.length_cons, List.length_nil]; omega) (fun hc => ?_) (fun hc => ?_)
          rotate_left
          · simp -dsimp; exact panleaf.out (by simp only [List.length_append, List.length_cons, List.length_nil, hA, hB, hE] at hc; omega) _ _ _
          simp -dsimp [f0, f10, f11, f12, g1, g2, g3, s2, s3]
          simp only [List.length_append, List.length_cons, List.length_nil, hA, hB, hE] at hc ⊢
          exact next.out _ _ _ (by rw [← hX]; simp) rfl (by simp; omega)
        · have hk3 : l[i].kind = 3 := hk23.resolve_left hk2
          simp -dsimp [f0, f10, f11, f12, g1, g2, g3, s2, s3, hk3]
          have hX := hXb
          rw [Node.lines_loop l[i] bi hk1 hk2] at hX
          obtain ⟨A, bA, hA⟩ : ∃ A b, nodesLines l[i].ahead (bi + 2) = (A, b) := ⟨_, _, rfl⟩
          obtain ⟨B, bB, hB⟩ : ∃ B b, nodesLines l[i].body bA = (B, b) := ⟨_, _, rfl⟩
          simp only [hA, hB, Prod.mk.injEq] at hX
          obtain ⟨hX, rfl⟩ := hX
          have hbA := lines_le _ l[i].ahead (Nat.le_refl _) (bi + 2)
          have hbB := lines_le _ l[i].body (Nat.le_refl _) bA
          rw [hA] at hbA; rw [hB] at hbB
          have hXl := congrArg List.length hX
          simp only [List.length_append, List.length_cons, List.length_nil] at hXl
          have ihA := @ih l[i].ahead (deep + 1) (by omega) (by omega) hoka
          have ihB := @ih l[i].body (deep + 1) (by omega) (by omega) hokb
          refine label_call (lab := bi) ha hk hak (by omega) ?_
          simp -dsimp [f0, f10, f11, f12, g1, g2, g3, s2, s3]
          refine label_call (lab := bi + 1) ha hk hak (by omega) ?_
          simp -dsimp [f0, f10, f11, f12, g1, g2, g3, s2, s3]
          refine line_call (x := lineOf 2 0 bi) ha hk hak hli (fun hc => ?_) (fun hc => ?_)
          rotate_left
          · simp -dsimp; exact panleaf.out (by (try simp only [List.length_append, List.length_cons, List.length_nil, hA, hB] at hc); omega) _ _ _
          simp -dsimp [f0, f10, f11, f12, g1, g2, g3, s2, s3]
          try simp only [List.length_append, List.length_cons, List.length_nil, hA, hB] at hc ⊢
          refine ihA ha hk hak (by simp only [List.length_append, List.length_cons, List.length_nil]; omega) (by omega) (fun hc => ?_) (fun hc _ _ => ?_)
          rotate_left
          · simp -dsimp; exact panleaf.out (by (try simp only [List.length_append, List.length_cons, List.length_nil, hA, hB] at hc); omega) _ _ _
          simp -dsimp [f0, f10, f11, f12, g1, g2, g3, s2, s3]
          try simp only [List.length_append, List.length_cons, List.length_nil, hA, hB] at hc ⊢
          refine line_call (x := lineOf 4 l[i].cond ((bi : Int) + 1)) ha hk hak (by simp only [List.length_append, List.length_cons, List.length_nil]; omega) (fun hc => ?_) (fun hc => ?_)
          rotate_left
          · simp -dsimp; exact panleaf.out (by (try simp only [List.length_append, List.length_cons, List.length_nil, hA, hB] at hc); omega) _ _ _
          simp -dsimp [f0, f10, f11, f12, g1, g2, g3, s2, s3]
          try simp only [List.length_append, List.length_cons, List.length_nil, hA, hB] at hc ⊢
          refine ihB ha hk hak (by simp only [List.length_append, List.length_cons, List.length_nil]; omega) (by omega) (fun hc => ?_) (fun hc _ _ => ?_)
          rotate_left
          · simp -dsimp; exact panleaf.out (by (try simp only [List.length_append, List.length_cons, List.length_nil, hA, hB] at hc); omega) _ _ _
          simp -dsimp [f0, f10, f11, f12, g1, g2, g3, s2, s3]
          try simp only [List.length_append, List.length_cons, List.length_nil, hA, hB] at hc ⊢
          refine line_call (x := lineOf 3 0 bi) ha hk hak (by simp only [List.length_append, List.length_cons, List.length_nil]; omega) (fun hc => ?_) (fun hc => ?_)
          rotate_left
          · simp -dsimp; exact panleaf.out (by (try simp only [List.length_append, List.length_cons, List.length_nil, hA, hB] at hc); omega) _ _ _
          simp -dsimp [f0, f10, f11, f12, g1, g2, g3, s2, s3]
          try simp only [List.length_append, List.length_cons, List.length_nil, hA, hB] at hc ⊢
          refine line_call (x := lineOf 2 0 ((bi : Int) + 1)) ha hk hak (by simp only [List.length_append, List.length_cons, List.length_nil]; omega) (fun hc => ?_) (fun hc => ?_)
          rotate_left
          · simp -dsimp; exact panleaf.out (by (try simp only [List.length_append, List.length_cons, List.length_nil, hA, hB] at hc); omega) _ _ _
          simp -dsimp [f0, f10, f11, f12, g1, g2, g3, s2, s3]
          try simp only [List.length_append, List.length_cons, List.length_nil, hA, hB] at hc ⊢
          exact next.out _ _ _ (by rw [← hX]; simp) rfl (by simp; omega)
    · rw [drop_end hlt] at he1 he2
      simp only [nodesLines, List.append_nil] at he1 he2
      simp -dsimp [f0, f10, f11, f12]
      exact retleaf.out _ _ _ he1 he2 hli
end Go.Proofs
