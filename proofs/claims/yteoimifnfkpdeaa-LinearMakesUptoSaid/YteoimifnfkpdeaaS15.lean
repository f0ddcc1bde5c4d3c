/- Linear code made of flat code that may be, may be. -/
import Derived.Test.YteoimifnfkpdeaaS14
set_option linter.unusedVariables false
set_option linter.unusedSimpArgs false
set_option maxHeartbeats 4000000
set_option maxRecDepth 100000
namespace Go.Proofs
open Go.Mu
theorem linesSeen_append (vars : Int) (a b : List Line) : ∀ s, linesSeen vars (a ++ b) s = (linesSeen vars a s).bind (linesSeen vars b) := by
  induction a with
  | nil => intro s; rfl
  | cons x a ih =>
    intro s
    simp only [List.cons_append, linesSeen]
    cases lineSeen vars x s with
    | none => rfl
    | some s' => simp only [Option.bind_some, ih]
/-- These lines may be, and set just these labels. -/
def Good (vars : Int) (N : List Line) (P : Int → Prop) : Prop := ∀ s, (∀ x ∈ s, ¬ P x) → ∃ s', linesSeen vars N s = some s' ∧ ∀ x, x ∈ s' ↔ x ∈ s ∨ P x
theorem Good.nil (vars : Int) : Good vars [] (fun _ => False) := fun s _ => ⟨s, rfl, by simp⟩
theorem Good.app {vars : Int} {a b : List Line} {P1 P2 P : Int → Prop} (h1 : Good vars a P1) (h2 : Good vars b P2) (hd : ∀ x, P1 x → ¬ P2 x) (hp : ∀ x, P x ↔ P1 x ∨ P2 x) : Good vars (a ++ b) P := by
  intro s hs
  obtain ⟨s1, e1, m1⟩ := h1 s (fun x hx h => hs x hx ((hp x).2 (.inl h)))
  obtain ⟨s2, e2, m2⟩ := h2 s1 (fun x hx h => by
    rcases (m1 x).1 hx with h' | h'
    · exact hs x h' ((hp x).2 (.inr h))
    · exact hd x h' h)
  refine ⟨s2, by rw [linesSeen_append, e1, Option.bind_some, e2], fun x => ?_⟩
  rw [m2, m1, hp, or_assoc]
theorem Good.plain {vars : Int} {x : Line} (h : ∀ s, lineSeen vars x s = some s) : Good vars [x] (fun _ => False) := fun s _ => ⟨s, by simp [linesSeen, h], by simp⟩
theorem Good.label {vars n : Int} (h : 0 ≤ n) : Good vars [lineOf 2 0 n] (fun x => x = n) := by
  intro s hs
  have hn : n ∉ s := fun hm => hs n hm rfl
  refine ⟨s ++ [n], ?_, by simp⟩
  simp [linesSeen, lineSeen, lineOf, zeroIns, hn, h]
theorem Good.goto {vars n : Int} (h : 0 ≤ n) : Good vars [lineOf 3 0 n] (fun _ => False) := .plain fun s => by simp [lineSeen, lineOf, zeroIns, h]
theorem Good.goif {vars n c : Int} (h : 0 ≤ n) (hc : isV c vars = true) : Good vars [lineOf 4 c n] (fun _ => False) := .plain fun s => by
  simp [isV] at hc
  simp [lineSeen, lineOf, zeroIns, h, hc]
theorem Good.end (vars : Int) : Good vars [lineOf 5 0 0] (fun _ => False) := .plain fun s => by simp [lineSeen, lineOf, zeroIns]
theorem Good.ins {vars : Int} {i : Ins} (h0 : 0 ≤ vars) (h1 : vars ≤ 16384) (hi : insOk vars i = true) : Good vars [⟨1, i, 0, 0⟩] (fun _ => False) := .plain fun s => by
  simp [lineSeen, Flat.ok, headOk, paramsOk, nodesCount, Node.count, nodesOk, Node.ok, hi, h0, h1]
def JumpsIn (N : List Line) (P : Int → Prop) : Prop := ∀ x ∈ N, (x.kind = 3 ∨ x.kind = 4) → P x.label
theorem JumpsIn.app {a b : List Line} {P : Int → Prop} (h1 : JumpsIn a P) (h2 : JumpsIn b P) : JumpsIn (a ++ b) P := by
  intro x hx hk
  rcases List.mem_append.1 hx with h | h
  · exact h1 x h hk
  · exact h2 x h hk
theorem JumpsIn.mono {a : List Line} {P Q : Int → Prop} (h : JumpsIn a P) (hq : ∀ x, P x → Q x) : JumpsIn a Q := fun x hx hk => hq _ (h x hx hk)
theorem JumpsIn.one {x : Line} {P : Int → Prop} (h : (x.kind = 3 ∨ x.kind = 4) → P x.label) : JumpsIn [x] P := by
  intro y hy hk; simp at hy; subst hy; exact h hk
theorem JumpsIn.nil {P : Int → Prop} : JumpsIn [] P := by intro x hx; simp at hx
abbrev From (a b : Nat) : Int → Prop := fun x => (a : Int) ≤ x ∧ x < b
theorem nodes_good (vars : Int) (h0 : 0 ≤ vars) (h1 : vars ≤ 16384) (n : Nat) : ∀ (l : List Node) (deep : Int), nodesCount l ≤ n → nodesOk vars deep l = true → ∀ lab,
    Good vars (nodesLines l lab).1 (From lab (nodesLines l lab).2) ∧ JumpsIn (nodesLines l lab).1 (From lab (nodesLines l lab).2) := by
  induction n with
  | zero =>
    intro l deep hl hok lab
    have := nodes_len l; have : l = [] := List.eq_nil_of_length_eq_zero (by omega); subst this
    exact ⟨(Good.nil vars).app (b := []) (Good.nil vars) (by simp) (by intro x; simp [nodesLines, From]), .nil⟩
  | succ n ih =>
    intro l
    induction l with
    | nil => intro deep hl hok lab; exact ⟨(Good.nil vars).app (b := []) (Good.nil vars) (by simp) (by intro x; simp [nodesLines, From]), .nil⟩
    | cons x l ihl =>
      intro deep hl hok lab
      simp only [nodesCount, Node.count_eq] at hl
      simp only [nodesOk, Bool.and_eq_true] at hok
      obtain ⟨⟨hdeep, hx⟩, hrest⟩ := hok
      have hle := fun (m : List Node) lab => lines_le _ m (Nat.le_refl _) lab
      have key : Good vars (x.lines lab).1 (From lab (x.lines lab).2) ∧ JumpsIn (x.lines lab).1 (From lab (x.lines lab).2) ∧ lab ≤ (x.lines lab).2 := by
        rw [Node.ok_eq] at hx
        by_cases hk1 : x.kind = 1
        · simp only [hk1, if_true, Bool.and_eq_true] at hx
          rw [Node.lines_ins x lab hk1]
          exact ⟨(Good.ins h0 h1 hx.1.1.1.1).app (b := []) (Good.nil vars) (by simp) (by intro y; simp [From]), .one (by simp), Nat.le_refl _⟩
        · by_cases hk2 : x.kind = 2
          · simp only [hk2, if_true, true_or, show ¬ ((2 : Int) = 1) by omega, if_false, Bool.and_eq_true] at hx
            obtain ⟨⟨⟨⟨⟨_, hc⟩, _⟩, ha⟩, hb⟩, he⟩ := hx
            obtain ⟨gA, jA⟩ := ih x.ahead _ (by omega) ha lab
            obtain ⟨gB, jB⟩ := ih x.body _ (by omega) hb ((nodesLines x.ahead lab).2 + 2)
            obtain ⟨gE, jE⟩ := ih x.els _ (by omega) he (nodesLines x.body ((nodesLines x.ahead lab).2 + 2)).2
            have lA := hle x.ahead lab
            have lB := hle x.body ((nodesLines x.ahead lab).2 + 2)
            have lE := hle x.els (nodesLines x.body ((nodesLines x.ahead lab).2 + 2)).2
            rw [Node.lines_if x lab hk2]
            simp only
            generalize nodesLines x.ahead lab = A at *
            generalize nodesLines x.body (A.2 + 2) = B at *
            generalize nodesLines x.els B.2 = E at *
            refine ⟨?_, ?_, by omega⟩
            · have s1 := (gA.app (.goif (vars := vars) (n := (A.2 : Int)) (c := x.cond) (by omega) hc) (P := From lab A.2) (by simp) (by simp)).app gB (P := fun y => From lab A.2 y ∨ From (A.2 + 2) B.2 y) (by intro y; simp only [From]; omega) (by intro y; rfl)
              have s2 := (Good.goto (vars := vars) (n := (A.2 : Int) + 1) (by omega)).app (.label (vars := vars) (n := (A.2 : Int)) (by omega)) (P := fun y => y = (A.2 : Int)) (by simp) (by simp)
              have s3 := s1.app s2 (P := fun y => From lab A.2 y ∨ From (A.2 + 2) B.2 y ∨ y = (A.2 : Int)) (by intro y; simp only [From]; omega) (by intro y; simp only [or_assoc])
              have s4 := s3.app gE (P := fun y => From lab A.2 y ∨ From (A.2 + 2) B.2 y ∨ y = (A.2 : Int) ∨ From B.2 E.2 y) (by intro y; simp only [From]; omega) (by intro y; simp only [or_assoc])
              exact s4.app (.label (vars := vars) (n := (A.2 : Int) + 1) (by omega)) (by intro y; simp only [From]; omega) (by intro y; simp only [From]; omega)
            · refine (((((jA.mono ?_).app (.one ?_)).app (jB.mono ?_)).app ((JumpsIn.one (x := lineOf 3 0 ((A.2 : Int) + 1)) ?_).app (.one (x := lineOf 2 0 (A.2 : Int)) ?_))).app (jE.mono ?_)).app (.one ?_)
              all_goals simp only [From]
              all_goals omega
          · by_cases hk3 : x.kind = 3
            · simp only [hk3, if_true, or_true, show ¬ ((3 : Int) = 1) by omega, if_false, Bool.and_eq_true] at hx
              obtain ⟨⟨⟨⟨⟨_, hc⟩, _⟩, ha⟩, hb⟩, he⟩ := hx
              obtain ⟨gA, jA⟩ := ih x.ahead _ (by omega) ha (lab + 2)
              obtain ⟨gB, jB⟩ := ih x.body _ (by omega) hb (nodesLines x.ahead (lab + 2)).2
              have lA := hle x.ahead (lab + 2)
              have lB := hle x.body (nodesLines x.ahead (lab + 2)).2
              rw [Node.lines_loop x lab hk1 hk2]
              simp only
              generalize nodesLines x.ahead (lab + 2) = A at *
              generalize nodesLines x.body A.2 = B at *
              refine ⟨?_, ?_, by omega⟩
              · have s1 := (Good.label (vars := vars) (n := (lab : Int)) (by omega)).app gA (P := fun y => y = (lab : Int) ∨ From (lab + 2) A.2 y) (by intro y; simp only [From]; omega) (by intro y; rfl)
                have s2 := (s1.app (.goif (vars := vars) (n := (lab : Int) + 1) (c := x.cond) (by omega) hc) (P := fun y => y = (lab : Int) ∨ From (lab + 2) A.2 y) (by simp) (by simp)).app gB (P := fun y => y = (lab : Int) ∨ From (lab + 2) B.2 y) (by intro y; simp only [From]; omega) (by intro y; simp only [From]; omega)
                have s3 := (Good.goto (vars := vars) (n := (lab : Int)) (by omega)).app (.label (vars := vars) (n := (lab : Int) + 1) (by omega)) (P := fun y => y = (lab : Int) + 1) (by simp) (by simp)
                exact s2.app s3 (by intro y; simp only [From]; omega) (by intro y; simp only [From]; omega)
              · refine ((((JumpsIn.one (x := lineOf 2 0 (lab : Int)) ?_).app (jA.mono ?_)).app (.one ?_)).app (jB.mono ?_)).app ((JumpsIn.one (x := lineOf 3 0 (lab : Int)) ?_).app (.one (x := lineOf 2 0 ((lab : Int) + 1)) ?_))
                all_goals simp only [From]
                all_goals omega
            · simp [hk1, hk2, hk3] at hx
      have hL := ihl deep (by omega) hrest (x.lines lab).2
      have lL := hle l (x.lines lab).2
      simp only [nodesLines]
      generalize x.lines lab = X at *
      generalize nodesLines l X.2 = Y at *
      exact ⟨key.1.app hL.1 (by intro y; simp only [From]; omega) (by intro y; simp only [From]; omega), (key.2.1.mono (by intro y; simp only [From]; omega)).app (hL.2.mono (by intro y; simp only [From]; omega))⟩
theorem made_ok (f : Flat) (h : f.ok = true) (hl : (nodesLines f.code 0).1.length < 65536) : (Linear.mk f.vars f.params f.rets f.frame ((nodesLines f.code 0).1 ++ [lineOf 5 0 0])).ok = true := by
  have hh : headOk f.vars f.params f.rets f.frame = true ∧ nodesOk f.vars 1 f.code = true := by simp only [Flat.ok, Bool.and_eq_true] at h; exact ⟨h.1.1, h.2⟩
  have hv : 0 ≤ f.vars ∧ f.vars ≤ 16384 := by have := hh.1; simp only [headOk, Bool.and_eq_true, decide_eq_true_eq] at this; omega
  obtain ⟨g, j⟩ := nodes_good f.vars hv.1 hv.2 _ f.code 1 (Nat.le_refl _) hh.2 0
  obtain ⟨s, e, m⟩ := g.app (Good.end f.vars) (P := From 0 (nodesLines f.code 0).2) (by simp) (by simp) [] (by simp)
  have jj : JumpsIn ((nodesLines f.code 0).1 ++ [lineOf 5 0 0]) (From 0 (nodesLines f.code 0).2) := j.app (.one (by simp))
  simp only [Linear.ok, e, Bool.and_eq_true, decide_eq_true_eq, Bool.not_eq_true', List.any_eq_false]
  refine ⟨⟨by simp; omega, by simp [Flat.ok, hh.1, nodesCount, nodesOk]⟩, fun x hx => ?_⟩
  have hj := jj x hx
  have hm := m x.label
  simp only [jumps, Bool.and_eq_true, Bool.or_eq_true, beq_iff_eq, Bool.not_eq_true', decide_eq_false_iff_not]
  rintro ⟨hk, hn⟩
  exact hn (hm.2 (.inr (hj hk)))
theorem linearMakes_ok (f : Flat) (hp : f.params.length ≤ 2^40) (hr : f.rets.length ≤ 2^40) (hc : nodesCount f.code ≤ 2^36) (H : List Blk) : ACalls Try.prog 3 [.agg f.cells] H (fun e H' => e = .ret (Bo true) ∧ H' = H) := by
  refine acalls_tidy (acalls_of_vc (hn := fun _ => false) (od := fun _ => none) Try.func3 rfl (by kernel_rfl) ?_)
  have c1 := fun H => few_ok f (by omega) H
  have c2 := known_ok
  have c3 := fun H => make_ok f hp hr hc H
  have c4 := fun H => refMay_ok f hp hr (by omega) H
  have c5 := fun H => rmake_ok f hc H
  simp only [Flat.cells] at c1 c3 c4 c5
  simp -dsimp
  have tt : ∀ (L : List Blk), Tidy H (fun e H' => e = AE.ret (Bo true) ∧ H' = H) (AE.ret (Bo true)) (H ++ L) := fun L => tidy_same rfl ⟨rfl, rfl⟩
  replace tt := Hid.mk tt
  refine acallsW_det (c1 _) ?_
  simp -dsimp
  refine condVW_introB (fun hfew => ?_) (fun hfew => ?_)
  · simp -dsimp
    refine acallsW_det (c2 _) ?_
    simp -dsimp
    exact tt.out _
  simp -dsimp
  refine acallsW_of (c3 _) (fun e H' hq => ?_)
  obtain ⟨l, n, rfl, rfl, h1, h2⟩ := hq
  simp -dsimp
  refine acallsW_det (c4 _) ?_
  simp -dsimp
  refine condVW_introB (fun hok => ?_) (fun hok => ?_)
  · obtain ⟨rfl, rfl⟩ := h1 hok
    have s0 := fun H => acalls_weak (args := [.agg [I 0, Int.sl [], Int.sl [], I 0, Line.sl []], .agg [I 0, nilS, nilS, I 0, nilS]]) (args' := [.agg [I 0, Int.sl [], Int.sl [], I 0, Line.sl []], .agg [I 0, Int.sl [], Int.sl [], I 0, Line.sl []]]) (by repeat first | exact Weak.refl _ | exact Weak.nil _ | exact WeakL.nil | exact WeakR.nil | apply Weak.aggL | apply Weak.vsR | apply WeakL.cons | apply WeakR.cons) (same_ok ⟨0, [], [], 0, []⟩ ⟨0, [], [], 0, []⟩ (by simp) (by simp) (by simp) H)
    simp only [decide_true] at s0
    simp -dsimp
    repeat' ((with_reducible first | refine And.intro ?_ ?_ | refine guardVW_introTD (fun _ => ?_) (fun _ => ?_) | refine guardVW_introFD (fun _ => ?_) (fun _ => ?_) | refine condVW_introD (fun _ => ?_) (fun _ => ?_) | refine guardVW_introTE (fun _ => ?_) (fun _ _ _ => ?_) | refine guardVW_introFE (fun _ => ?_) (fun _ _ _ => ?_) | refine condVW_introE (fun _ => ?_) (fun _ _ _ => ?_) | refine guardVW_introTNE (fun _ _ _ => ?_) (fun _ => ?_) | refine guardVW_introFNE (fun _ _ _ => ?_) (fun _ => ?_) | refine condVW_introNE (fun _ _ _ => ?_) (fun _ => ?_) | refine guardVW_introTB (fun _ => ?_) (fun _ => ?_) | refine guardVW_introFB (fun _ => ?_) (fun _ => ?_) | refine condVW_introB (fun _ => ?_) (fun _ => ?_) | refine guardVW_introT (fun _ => ?_) (fun _ => ?_) | refine guardVW_introF (fun _ => ?_) (fun _ => ?_) | refine condVW_intro (fun _ => ?_) (fun _ => ?_) | refine acallsW_det (s0 _) ?_ | refine callDW_intro (s0 _) ?_ | refine acallsW_det (c2 _) ?_ | refine callDW_intro (c2 _) ?_) <;> simp -dsimp [*])
    exact tt.out _
  · have h2 := h2 hok
    simp -dsimp
    refine acallsW_of (c5 _) (fun e H' hq => ?_)
    obtain ⟨rfl, rfl⟩ := hq
    simp -dsimp
    refine condVW_introB (fun h65 => ?_) (fun h65 => ?_)
    · have := h2.2 (by simpa using h65)
      subst this
      simp -dsimp
      repeat' ((with_reducible first | refine And.intro ?_ ?_ | refine guardVW_introTD (fun _ => ?_) (fun _ => ?_) | refine guardVW_introFD (fun _ => ?_) (fun _ => ?_) | refine condVW_introD (fun _ => ?_) (fun _ => ?_) | refine guardVW_introTE (fun _ => ?_) (fun _ _ _ => ?_) | refine guardVW_introFE (fun _ => ?_) (fun _ _ _ => ?_) | refine condVW_introE (fun _ => ?_) (fun _ _ _ => ?_) | refine guardVW_introTNE (fun _ _ _ => ?_) (fun _ => ?_) | refine guardVW_introFNE (fun _ _ _ => ?_) (fun _ => ?_) | refine condVW_introNE (fun _ _ _ => ?_) (fun _ => ?_) | refine guardVW_introTB (fun _ => ?_) (fun _ => ?_) | refine guardVW_introFB (fun _ => ?_) (fun _ => ?_) | refine condVW_introB (fun _ => ?_) (fun _ => ?_) | refine guardVW_introT (fun _ => ?_) (fun _ => ?_) | refine guardVW_introF (fun _ => ?_) (fun _ => ?_) | refine condVW_intro (fun _ => ?_) (fun _ => ?_) | refine acallsW_det (c2 _) ?_ | refine callDW_intro (c2 _) ?_) <;> simp -dsimp [*])
      exact tt.out _
    · have h65' : (nodesLines f.code 0).1.length < 65536 := by simpa using h65
      obtain ⟨rfl, rfl⟩ := h2.1 h65'
      obtain ⟨N, hN⟩ : ∃ N, N = (nodesLines f.code 0).1 ++ [lineOf 5 0 0] := ⟨_, rfl⟩
      have hNl : N.length ≤ 2^40 := by rw [hN]; simp; omega
      have s0 := fun H => same_ok ⟨f.vars, f.params, f.rets, f.frame, N⟩ ⟨f.vars, f.params, f.rets, f.frame, N⟩ hp hr hNl H
      have lm := fun H => linear_ok ⟨f.vars, f.params, f.rets, f.frame, N⟩ hp hr hNl H
      have hmade := made_ok f hok h65'
      rw [← hN] at hmade ⊢
      replace hN := Hid.mk hN
      simp only [hmade] at lm
      simp only [decide_true, Linear.cells] at s0 lm
      simp -dsimp
      repeat' ((with_reducible first | refine And.intro ?_ ?_ | refine guardVW_introTD (fun _ => ?_) (fun _ => ?_) | refine guardVW_introFD (fun _ => ?_) (fun _ => ?_) | refine condVW_introD (fun _ => ?_) (fun _ => ?_) | refine guardVW_introTE (fun _ => ?_) (fun _ _ _ => ?_) | refine guardVW_introFE (fun _ => ?_) (fun _ _ _ => ?_) | refine condVW_introE (fun _ => ?_) (fun _ _ _ => ?_) | refine guardVW_introTNE (fun _ _ _ => ?_) (fun _ => ?_) | refine guardVW_introFNE (fun _ _ _ => ?_) (fun _ => ?_) | refine condVW_introNE (fun _ _ _ => ?_) (fun _ => ?_) | refine guardVW_introTB (fun _ => ?_) (fun _ => ?_) | refine guardVW_introFB (fun _ => ?_) (fun _ => ?_) | refine condVW_introB (fun _ => ?_) (fun _ => ?_) | refine guardVW_introT (fun _ => ?_) (fun _ => ?_) | refine guardVW_introF (fun _ => ?_) (fun _ => ?_) | refine condVW_intro (fun _ => ?_) (fun _ => ?_) | refine acallsW_det (s0 _) ?_ | refine callDW_intro (s0 _) ?_ | refine acallsW_det (lm _) ?_ | refine callDW_intro (lm _) ?_ | refine acallsW_det (c2 _) ?_ | refine callDW_intro (c2 _) ?_) <;> simp -dsimp [*])
      exact tt.out _
end Go.Proofs
