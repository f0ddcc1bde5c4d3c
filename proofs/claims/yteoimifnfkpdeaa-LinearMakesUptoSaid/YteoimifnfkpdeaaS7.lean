/- Lines made of nodes. -/
import Derived.Test.YteoimifnfkpdeaaS6
set_option linter.unusedVariables false
set_option linter.unusedSimpArgs false
set_option maxHeartbeats 4000000
set_option maxRecDepth 100000
namespace Go.Proofs
open Go.Mu
abbrev lineOf (kind var label : Int) : Line := ⟨kind, ⟨0, 0, 0, 0, 0, 0, 0, false⟩, var, label⟩
mutual
/-- The lines that a node makes, the labels being numbered from here on; and the next label. -/
def Node.lines : Node → Nat → List Line × Nat
  | .mk k i c a b e, lab =>
    if k = 1 then ([⟨1, i, 0, 0⟩], lab)
    else if k = 2 then
      let A := nodesLines a lab
      let B := nodesLines b (A.2 + 2)
      let E := nodesLines e B.2
      (A.1 ++ [lineOf 4 c A.2] ++ B.1 ++ [lineOf 3 0 ((A.2 : Int) + 1), lineOf 2 0 A.2] ++ E.1 ++ [lineOf 2 0 ((A.2 : Int) + 1)], E.2)
    else
      let A := nodesLines a (lab + 2)
      let B := nodesLines b A.2
      ([lineOf 2 0 lab] ++ A.1 ++ [lineOf 4 c ((lab : Int) + 1)] ++ B.1 ++ [lineOf 3 0 lab, lineOf 2 0 ((lab : Int) + 1)], B.2)
def nodesLines : List Node → Nat → List Line × Nat
  | [], lab => ([], lab)
  | n :: l, lab =>
    let A := n.lines lab
    let B := nodesLines l A.2
    (A.1 ++ B.1, B.2)
end
theorem Node.lines_ins (n : Node) (lab : Nat) (h : n.kind = 1) : n.lines lab = ([⟨1, n.ins, 0, 0⟩], lab) := by
  cases n; simp only [Node.kind] at h; subst h; simp [Node.lines, Node.ins]
theorem Node.lines_if (n : Node) (lab : Nat) (h : n.kind = 2) : n.lines lab = (let A := nodesLines n.ahead lab; let B := nodesLines n.body (A.2 + 2); let E := nodesLines n.els B.2
    (A.1 ++ [lineOf 4 n.cond A.2] ++ B.1 ++ [lineOf 3 0 ((A.2 : Int) + 1), lineOf 2 0 A.2] ++ E.1 ++ [lineOf 2 0 ((A.2 : Int) + 1)], E.2)) := by
  cases n; simp only [Node.kind] at h; subst h; simp only [Node.lines, Node.ahead, Node.body, Node.els, Node.cond]; rfl
theorem Node.lines_loop (n : Node) (lab : Nat) (h1 : n.kind ≠ 1) (h2 : n.kind ≠ 2) : n.lines lab = (let A := nodesLines n.ahead (lab + 2); let B := nodesLines n.body A.2
    ([lineOf 2 0 lab] ++ A.1 ++ [lineOf 4 n.cond ((lab : Int) + 1)] ++ B.1 ++ [lineOf 3 0 lab, lineOf 2 0 ((lab : Int) + 1)], B.2)) := by
  cases n; simp only [Node.kind] at h1 h2; simp only [Node.lines, Node.ahead, Node.body, Node.els, Node.cond, if_neg h1, if_neg h2]
theorem nodesLines_drop {l : List Node} {i : Nat} (h : i < l.length) (lab : Nat) : nodesLines (l.drop i) lab = ((l[i].lines lab).1 ++ (nodesLines (l.drop (i + 1)) (l[i].lines lab).2).1, (nodesLines (l.drop (i + 1)) (l[i].lines lab).2).2) := by
  rw [drop_cons h, nodesLines]
/-- How many lines and labels there are at the most. -/
theorem lines_le (n : Nat) : ∀ (l : List Node), nodesCount l ≤ n → ∀ lab, (nodesLines l lab).1.length ≤ 5 * nodesCount l ∧ (nodesLines l lab).2 ≤ lab + 2 * nodesCount l ∧ lab ≤ (nodesLines l lab).2 := by
  induction n with
  | zero => intro l hl lab; have := nodes_len l; have : l = [] := List.eq_nil_of_length_eq_zero (by omega); subst this; simp [nodesLines]
  | succ n ih =>
    intro l
    induction l with
    | nil => intro _ lab; simp [nodesLines]
    | cons x l ihl =>
      intro hl lab
      simp only [nodesCount, Node.count_eq] at hl
      have key : (x.lines lab).1.length ≤ 5 * x.count ∧ (x.lines lab).2 ≤ lab + 2 * x.count ∧ lab ≤ (x.lines lab).2 := by
        rw [Node.count_eq]
        by_cases h1 : x.kind = 1
        · rw [Node.lines_ins x lab h1]; simp; omega
        · by_cases h2 : x.kind = 2
          · rw [Node.lines_if x lab h2]
            have hA := ih x.ahead (by omega) lab
            have hB := ih x.body (by omega) ((nodesLines x.ahead lab).2 + 2)
            have hE := ih x.els (by omega) (nodesLines x.body ((nodesLines x.ahead lab).2 + 2)).2
            simp only [List.length_append, List.length_cons, List.length_nil]
            omega
          · rw [Node.lines_loop x lab h1 h2]
            have hA := ih x.ahead (by omega) (lab + 2)
            have hB := ih x.body (by omega) (nodesLines x.ahead (lab + 2)).2
            simp only [List.length_append, List.length_cons, List.length_nil]
            omega
      have hL := ihl (by omega) (x.lines lab).2
      simp only [nodesLines, List.length_append, nodesCount]
      omega

/-- The panic by which a making is left. -/
abbrev refV : AV := .ifc 93 (.agg [])
def mkBox (t k : Nat) (ls : List Line) (lab : Nat) : Blk := .box t [ownS k (ls.map Line.cells), I lab]
def mkRow (ls : List Line) : Blk := ownB 45 11 (ls.map Line.cells)
theorem under_mkBox {n t k : Nat} (h : k < n) (ls : List Line) (lab : Nat) : (mkBox t k ls lab).under n = true := by simp [mkBox, Blk.under, underL, under_ownS _ _ _ h, AV.under]
theorem under_mkRow (n : Nat) (ls : List Line) : (mkRow ls).under n = true := by
  refine under_ownB _ _ _ _ ?_
  rw [List.all_eq_true]
  intro e he
  obtain ⟨x, _, rfl⟩ := List.mem_map.1 he
  simp [underL, AV.under]

theorem label_call {H : List Blk} {a k : Nat} {ls : List Line} {lab : Nat} {L : List Blk} {R : AE → List Blk → Prop} {w : Wit R} (ha : a < H.length) (hk : k < H.length) (hak : a ≠ k) (hl : lab ≤ 2^45)
    (h1 : R (.ret (I lab)) (set2 H a (mkBox 96 k ls (lab + 1)) k (mkRow ls) ++ L)) :
    ACallsW Try.prog 71 [.bp a 0] (set2 H a (mkBox 96 k ls lab) k (mkRow ls) ++ L) R w := by
  refine acalls_of_vc (hn := fun _ => false) (od := fun _ => none) Try.func71 rfl (by kernel_rfl) ?_
  have g1 := fun X Y L => m2_getA ha hak X Y L
  have s1 := fun X Y Z L => m2_setA ha hak X Y Z L
  have hw : IntKind.i64.wrap ((lab : Int) + 1) = (lab : Int) + 1 := wrapI (by omega) (by omega)
  have hw2 : IntKind.i64.wrap (lab : Int) = lab := wrapI (by omega) (by omega)
  simp -dsimp [g1, s1, hw, hw2, mkBox]
  exact h1
theorem line_call {H : List Blk} {a k : Nat} {ls : List Line} {lab : Nat} {L : List Blk} {x : Line} {R : AE → List Blk → Prop} {w : Wit R} (ha : a < H.length) (hk : k < H.length) (hak : a ≠ k) (hls : ls.length ≤ 65536)
    (h1 : ls.length < 65536 → R (.ret (.tup [])) (set2 H a (mkBox 96 k (ls ++ [x]) lab) k (mkRow (ls ++ [x])) ++ L)) (h2 : ls.length = 65536 → R (.pan refV) (set2 H a (mkBox 96 k ls lab) k (mkRow ls) ++ L)) :
    ACallsW Try.prog 38 [.bp a 0, .agg [I x.kind, I x.ins.kind, I x.ins.op, I x.ins.d, I x.ins.a, I x.ins.b, I x.ins.c, U x.ins.word, Bo x.ins.stack, I x.var, I x.label]] (set2 H a (mkBox 96 k ls lab) k (mkRow ls) ++ L) R w := by
  refine acalls_tidy (acalls_of_vc (hn := fun d => d == 19) (od := fun _ => none) Try.func38 rfl (by kernel_rfl) ?_)
  have g1 := fun X Y L => m2_getA ha hak X Y L
  have g2 := fun X Y L => m2_getB (a := a) hk X Y L
  have s1 := fun X Y Z L => m2_setA ha hak X Y Z L
  have s2 := fun X Y Z L => m2_setB (a := a) hk X Y Z L
  have hlen : ∀ X L, lenV (set2 H a X k (mkRow ls) ++ L) 1 (ownS k (List.map Line.cells ls)) = some ((List.map Line.cells ls).length : Int) := fun X L => lenV_ownS (m2_getB hk X _ L)
  have hu : ∀ (X' Y' : Blk), X'.under (set2 H a X' k Y' ++ L).length = true → Y'.under (set2 H a X' k Y' ++ L).length = true → underH (set2 H a (mkBox 96 k ls lab) k (mkRow ls) ++ L).length (set2 H a (mkBox 96 k ls lab) k (mkRow ls) ++ L) = true → underH (set2 H a X' k Y' ++ L).length (set2 H a X' k Y' ++ L) = true := by
    intro X' Y' h1 h2 h3
    have e : (set2 H a (mkBox 96 k ls lab) k (mkRow ls) ++ L).length = (set2 H a X' k Y' ++ L).length := by simp
    rw [e] at h3
    exact underH_m2 ha hk hak h3 h1 h2
  simp -dsimp [g1, g2, s1, s2, hlen, mkBox]
  refine condVW_introE (fun he => ?_) (fun hne _ _ => ?_)
  · simp -dsimp [g1, g2, s1, s2, hlen, mkBox]
    rw [← List.append_assoc]
    exact tidy_toP (Nat.le_refl _) id rfl (h2 (by omega))
  · simp -dsimp [g1, g2, s1, s2, hlen, mkBox]
    refine appendVW_own (g2 _ _ _) (by simp; omega) (by simp; omega) ?_
    simp -dsimp [g1, g2, s1, s2, hlen, mkBox]
    rw [← List.append_assoc]
    have := h1 (by omega)
    simp only [mkBox, mkRow, List.map_append] at this
    refine tidy_to (by simp) (hu _ _ ?_ ?_) rfl this
    · simp [Blk.under, underL, AV.under]
      exact under_ownS _ _ _ (by omega)
    · have := under_mkRow (set2 H a (mkBox 96 k (ls ++ [x]) lab) k (mkRow (ls ++ [x])) ++ L).length (ls ++ [x])
      simpa [mkRow] using this
end Go.Proofs
