/- May linear code be, by the document. -/
import Derived.Test.YteoimifnfkpdeaaD1toS24
import Derived.Test.YteoimifnfkpdeaaL1
set_option linter.unusedVariables false
set_option linter.unusedSimpArgs false
set_option maxHeartbeats 4000000
set_option maxRecDepth 100000
namespace Go.Proofs
open Go.Mu
/-- Where a label stands; -1: nowhere. -/
def whereL (c : List Line) (label : Int) : Int := idxP (fun x => x.kind == 2 && x.label == label) c 0
theorem idxP_le {α : Type} (p : α → Bool) (l : List α) (k : Int) (hk : 0 ≤ k) : -1 ≤ idxP p l k ∧ idxP p l k < k + l.length + 1 := by
  induction l generalizing k with
  | nil => simp [idxP]; omega
  | cons a l ih =>
    rw [idxP]
    split
    · simp; omega
    · have := ih (k + 1) (by omega); simp only [List.length_cons]; omega
theorem where_ok (l : Linear) (label : Int) (hc : l.code.length ≤ 2^40) (H : List Blk) : ACalls Try.prog 56 [.agg l.cells, I label] H (fun e H' => e = .ret (I (whereL l.code label)) ∧ H' = H) := by
  refine acalls_tidy (acalls_of_vc (hn := fun _ => false) (od := fun _ => none) Try.func56 rfl (by kernel_rfl) ?_)
  have leaf : ∀ (L : List Blk) (c : Int), c = whereL l.code label → Tidy H (fun e H' => e = AE.ret (I (whereL l.code label)) ∧ H' = H) (AE.ret (AV.v (Value.int .i64 c))) (H ++ L) := fun L c hb => tidy_same rfl ⟨by rw [hb], rfl⟩
  replace leaf := Hid.mk leaf
  simp -dsimp
  refine loop_rule (hn := fun _ => false) (od := fun _ => none) (fun (i : Nat) f H' => H' = H ++ [Blk.box 30 [I l.vars, Int.sl l.params, Int.sl l.rets, I l.frame, Line.sl l.code]] ∧ f 2 = .bp H.length 0 ∧ f 1 = I label ∧ f 5 = I i ∧ i ≤ l.code.length ∧ idxP (fun x => x.kind == 2 && x.label == label) (l.code.drop i) i = whereL l.code label) (fun i => l.code.length - i) (by kernel_rfl) 0 (by simp [whereL]) ?_
  rintro i f H' ⟨rfl, f2, f1, f5, hi, ht⟩
  simp -dsimp [f1, f2, f5]
  refine condVW_introD (fun hlt => ?_) (fun hlt => ?_)
  · rw [drop_cons hlt, idxP] at ht
    replace ht := Hid.mk ht
    simp -dsimp [f1, f2, f5, List.getElem?_eq_getElem, hlt]
    repeat' ((with_reducible first | refine And.intro ?_ ?_ | refine guardVW_introTD (fun _ => ?_) (fun _ => ?_) | refine guardVW_introFD (fun _ => ?_) (fun _ => ?_) | refine condVW_introD (fun _ => ?_) (fun _ => ?_) | refine guardVW_introTE (fun _ => ?_) (fun _ _ _ => ?_) | refine guardVW_introFE (fun _ => ?_) (fun _ _ _ => ?_) | refine condVW_introE (fun _ => ?_) (fun _ _ _ => ?_) | refine guardVW_introTNE (fun _ _ _ => ?_) (fun _ => ?_) | refine guardVW_introFNE (fun _ _ _ => ?_) (fun _ => ?_) | refine condVW_introNE (fun _ _ _ => ?_) (fun _ => ?_) | refine guardVW_introTB (fun _ => ?_) (fun _ => ?_) | refine guardVW_introFB (fun _ => ?_) (fun _ => ?_) | refine condVW_introB (fun _ => ?_) (fun _ => ?_) | refine guardVW_introT (fun _ => ?_) (fun _ => ?_) | refine guardVW_introF (fun _ => ?_) (fun _ => ?_) | refine condVW_intro (fun _ => ?_) (fun _ => ?_)) <;> simp -dsimp [*, List.getElem?_eq_getElem])
    all_goals first
      | (refine leaf.out _ _ ?_; rw [← ht.out, if_pos (by simp [*])]; done)
      | (have ht := ht.out; rw [if_neg (by simp [*])] at ht; exact ⟨i + 1, by omega, wrapS (by omega), by omega, by simpa using ht⟩)
      | trace_state
  · simp -dsimp [f1, f2, f5]
    rw [drop_end hlt, idxP] at ht
    exact leaf.out _ _ ht
def refLine (l : Linear) (i : Nat) (x : Line) : Bool :=
  if x.kind = 1 then insOk l.vars x.ins && x.var == 0 && x.label == 0
  else if x.kind = 2 then decide (x.ins = zeroIns) && x.var == 0 && decide (0 ≤ x.label) && whereL l.code x.label == (i : Int)
  else if x.kind = 3 then decide (x.ins = zeroIns) && x.var == 0 && decide (0 ≤ x.label) && decide (0 ≤ whereL l.code x.label)
  else if x.kind = 4 then decide (x.ins = zeroIns) && isV x.var l.vars && decide (0 ≤ x.label) && decide (0 ≤ whereL l.code x.label)
  else if x.kind = 5 then decide (x.ins = zeroIns) && x.var == 0 && x.label == 0
  else false
def refLines (l : Linear) : List Line → Nat → Bool
  | [], _ => true
  | x :: r, i => refLine l i x && refLines l r (i + 1)
def Linear.refOk (l : Linear) : Bool := decide (l.code.length ≤ 65536) && headOk l.vars l.params l.rets l.frame && refLines l l.code 0
theorem ins_eql (x : Ins) : binE Try.prog .eql 43 (.agg x.cells) (.agg [I 0, I 0, I 0, I 0, I 0, I 0, U 0, Bo false]) = some (Bo (decide (x = zeroIns))) := by
  simp only [Ins.cells, I, U, Bo]
  rw [Try.eq43]
  congr 3
  rw [Bool.eq_iff_iff]
  simp [Ins.ext_iff, and_assoc, zeroIns]
theorem rlinear_ok (l : Linear) (hp : l.params.length ≤ 2^40) (hr : l.rets.length ≤ 2^40) (hc : l.code.length ≤ 2^40) (H : List Blk) : ACalls Try.prog 28 [.agg l.cells] H (fun e H' => e = .ret (Bo l.refOk) ∧ H' = H) := by
  refine acalls_tidy (acalls_of_vc (hn := fun _ => false) (od := fun _ => none) Try.func28 rfl (by kernel_rfl) ?_)
  have leaf : ∀ (L : List Blk) (c : Bool), c = l.refOk → Tidy H (fun e H' => e = AE.ret (Bo l.refOk) ∧ H' = H) (AE.ret (AV.v (Value.bool c))) (H ++ L) := fun L c hb => tidy_same rfl ⟨by rw [hb], rfl⟩
  replace leaf := Hid.mk leaf
  have hh := fun H => head_ok l.vars l.params l.rets l.frame hp hr H
  simp -dsimp
  repeat' ((with_reducible first | refine And.intro ?_ ?_ | refine guardVW_introTD (fun _ => ?_) (fun _ => ?_) | refine guardVW_introFD (fun _ => ?_) (fun _ => ?_) | refine condVW_introD (fun _ => ?_) (fun _ => ?_) | refine guardVW_introTE (fun _ => ?_) (fun _ _ _ => ?_) | refine guardVW_introFE (fun _ => ?_) (fun _ _ _ => ?_) | refine condVW_introE (fun _ => ?_) (fun _ _ _ => ?_) | refine guardVW_introTNE (fun _ _ _ => ?_) (fun _ => ?_) | refine guardVW_introFNE (fun _ _ _ => ?_) (fun _ => ?_) | refine condVW_introNE (fun _ _ _ => ?_) (fun _ => ?_) | refine guardVW_introTB (fun _ => ?_) (fun _ => ?_) | refine guardVW_introFB (fun _ => ?_) (fun _ => ?_) | refine condVW_introB (fun _ => ?_) (fun _ => ?_) | refine guardVW_introT (fun _ => ?_) (fun _ => ?_) | refine guardVW_introF (fun _ => ?_) (fun _ => ?_) | refine condVW_intro (fun _ => ?_) (fun _ => ?_) | refine acallsW_det (hh _) ?_ | refine callDW_intro (hh _) ?_) <;> simp -dsimp [*])
  · rename_i h
    refine leaf.out _ _ ?_
    simp [Linear.refOk]; omega
  · rename_i h
    refine leaf.out _ _ ?_
    simp [Linear.refOk, h]
  rename_i h64 hhead
  have hbase : l.refOk = refLines l l.code 0 := by
    have : l.code.length ≤ 65536 := by omega
    simp [Linear.refOk, hhead, this]
  have hins := fun (x : Ins) => ins_eql x
  simp only [Ins.cells] at hins
  have hw := fun label H => where_ok l label hc H
  simp only [Linear.cells] at hw
  refine loop_rule (hn := fun _ => false) (od := fun _ => none) (fun (i : Nat) f H' => (∃ L, H' = H ++ ([Blk.box 30 [I l.vars, Int.sl l.params, Int.sl l.rets, I l.frame, Line.sl l.code]] ++ L)) ∧ f 1 = .bp H.length 0 ∧ f 3 = I i ∧ i ≤ l.code.length ∧ refLines l (l.code.drop i) i = l.refOk) (fun i => l.code.length - i) (by kernel_rfl) 0 (by refine ⟨⟨[], rfl⟩, ?_⟩; simp [hbase]) ?_
  rintro i f H' ⟨⟨L, rfl⟩, f1, f3, hi, ht⟩
  obtain ⟨N, hN⟩ : ∃ N, N = H ++ ([Blk.box 30 [I l.vars, Int.sl l.params, Int.sl l.rets, I l.frame, Line.sl l.code]] ++ L) := ⟨_, rfl⟩
  have g1 : ∀ X, (N ++ X)[H.length]? = some (Blk.box 30 [I l.vars, Int.sl l.params, Int.sl l.rets, I l.frame, Line.sl l.code]) := by
    intro X; rw [hN]; simp
  have n1 := g1 []
  rw [List.append_nil] at n1
  have back : ∀ X, ∃ X', N ++ X = H ++ X' := fun X => ⟨_, by rw [hN, List.append_assoc]⟩
  have hbk : ∀ X, ∃ L, N ++ X = H ++ ([Blk.box 30 [I l.vars, Int.sl l.params, Int.sl l.rets, I l.frame, Line.sl l.code]] ++ L) := fun X => ⟨L ++ X, by rw [hN]; simp⟩
  rw [← hN]
  replace back := Hid.mk back
  replace hbk := Hid.mk hbk
  replace hi := Hid.mk hi
  simp -dsimp [f1, f3, n1]
  refine condVW_introD (fun hlt => ?_) (fun hlt => ?_)
  · have fail : Hid (refLine l i l.code[i] = false → ∀ X, Tidy H (fun e H' => e = AE.ret (Bo l.refOk) ∧ H' = H) (AE.ret (AV.v (Value.bool false))) (N ++ X)) := ⟨fun h X => by
      obtain ⟨X', hX⟩ := back.out X
      rw [hX]
      refine leaf.out _ _ ?_
      rw [← ht, drop_cons hlt, refLines, h]; rfl⟩
    have next : Hid (refLine l i l.code[i] = true → ∀ X, ∃ y, l.code.length - y < l.code.length - i ∧ (∃ L, N ++ X = H ++ Blk.box 30 [I l.vars, Int.sl l.params, Int.sl l.rets, I l.frame, Line.sl l.code] :: L) ∧ IntKind.i64.wrap ((i : Int) + 1) = (y : Int) ∧ y ≤ l.code.length ∧ refLines l (l.code.drop y) y = l.refOk) := ⟨fun h X => by
      rw [drop_cons hlt, refLines, h, Bool.true_and] at ht
      obtain ⟨L', hL⟩ := hbk.out X
      exact ⟨i + 1, by omega, ⟨L', by simpa using hL⟩, wrapS (by omega), by omega, ht⟩⟩
    have hio := fun H => ins_ok l.code[i].ins l.vars H
    simp only [Ins.cells] at hio
    replace hN := Hid.mk hN
    replace ht := Hid.mk ht
    replace hbase := Hid.mk hbase
    simp -dsimp [f1, f3, n1, g1, List.getElem?_eq_getElem, hlt, hins]
    repeat' ((with_reducible first | refine And.intro ?_ ?_ | refine guardVW_introTD (fun _ => ?_) (fun _ => ?_) | refine guardVW_introFD (fun _ => ?_) (fun _ => ?_) | refine condVW_introD (fun _ => ?_) (fun _ => ?_) | refine guardVW_introTE (fun _ => ?_) (fun _ _ _ => ?_) | refine guardVW_introFE (fun _ => ?_) (fun _ _ _ => ?_) | refine condVW_introE (fun _ => ?_) (fun _ _ _ => ?_) | refine guardVW_introTNE (fun _ _ _ => ?_) (fun _ => ?_) | refine guardVW_introFNE (fun _ _ _ => ?_) (fun _ => ?_) | refine condVW_introNE (fun _ _ _ => ?_) (fun _ => ?_) | refine guardVW_introTB (fun _ => ?_) (fun _ => ?_) | refine guardVW_introFB (fun _ => ?_) (fun _ => ?_) | refine condVW_introB (fun _ => ?_) (fun _ => ?_) | refine guardVW_introT (fun _ => ?_) (fun _ => ?_) | refine guardVW_introF (fun _ => ?_) (fun _ => ?_) | refine condVW_intro (fun _ => ?_) (fun _ => ?_) | refine acallsW_det (hio _) ?_ | refine callDW_intro (hio _) ?_ | refine acallsW_det (hw _ _) ?_ | refine callDW_intro (hw _ _) ?_) <;> simp -dsimp [*])
    all_goals first | refine fail.out ?_ _ | refine next.out ?_ _ | trace_state
    all_goals clear hio hw hh g1 n1 back hbk fail next leaf
    all_goals first | (simp [refLine, isV, *]; done) | (simp [refLine, isV, *]; omega) | trace_state
  · simp -dsimp [f1, f3, n1]
    obtain ⟨X', hX⟩ := back.out []
    rw [List.append_nil] at hX
    rw [hX]
    refine leaf.out _ _ ?_
    rw [← ht, drop_end hlt]; rfl
end Go.Proofs
namespace Go.Proofs
open Go.Mu
theorem idxP_app_none {α : Type} (p : α → Bool) (pre : List α) (x : α) (rest : List α) (k : Int) (h : ∀ y ∈ pre, p y = false) (hx : p x = true) : idxP p (pre ++ x :: rest) k = k + pre.length := by
  induction pre generalizing k with
  | nil => simp [idxP, hx]
  | cons a l ih =>
    rw [List.cons_append, idxP, if_neg (by simp [h a (by simp)]), ih _ (fun y hy => h y (by simp [hy]))]
    simp; omega
theorem idxP_app_some {α : Type} (p : α → Bool) (pre rest : List α) (k : Int) (h : ∃ y ∈ pre, p y = true) : idxP p (pre ++ rest) k < k + pre.length ∧ k ≤ idxP p (pre ++ rest) k := by
  induction pre generalizing k with
  | nil => obtain ⟨y, hy, _⟩ := h; simp at hy
  | cons a l ih =>
    rw [List.cons_append, idxP]
    split
    · simp; omega
    · rename_i ha
      obtain ⟨y, hy, hp⟩ := h
      have : ∃ y ∈ l, p y = true := by
        rcases List.mem_cons.1 hy with rfl | hy
        · exact absurd hp ha
        · exact ⟨y, hy, hp⟩
      have := ih (k + 1) this
      simp only [List.length_cons]; omega
theorem idxP_pos {α : Type} (p : α → Bool) (l : List α) (k : Int) (hk : 0 ≤ k) : 0 ≤ idxP p l k ↔ ∃ y ∈ l, p y = true := by
  induction l generalizing k with
  | nil => simp [idxP]
  | cons a l ih =>
    rw [idxP]
    split
    · rename_i h; exact ⟨fun _ => ⟨a, by simp, h⟩, fun _ => hk⟩
    · rename_i h
      rw [ih (k + 1) (by omega)]
      simp [h]
/-- Does this label stand there? -/
def Stands (c : List Line) (v : Int) : Prop := ∃ y ∈ c, y.kind = 2 ∧ y.label = v
theorem where_pos (c : List Line) (v : Int) : 0 ≤ whereL c v ↔ Stands c v := by
  unfold whereL Stands
  rw [idxP_pos _ _ _ (Int.le_refl 0)]
  simp
theorem where_at (pre rest : List Line) (x : Line) (hk : x.kind = 2) : whereL (pre ++ x :: rest) x.label = (pre.length : Int) ↔ ¬ Stands pre x.label := by
  unfold whereL Stands
  constructor
  · rintro h ⟨y, hy, h1, h2⟩
    have := idxP_app_some (fun z : Line => z.kind == 2 && z.label == x.label) pre (x :: rest) 0 ⟨y, hy, by simp [h1, h2]⟩
    omega
  · intro h
    rw [idxP_app_none]
    · simp
    · intro y hy
      cases hp : (y.kind == 2 && y.label == x.label) with
      | false => rfl
      | true => simp at hp; exact absurd ⟨y, hy, hp.1, hp.2⟩ h
    · simp [hk]
/-- What a line is by itself. -/
def plainL (vars : Int) (x : Line) : Bool :=
  if x.kind = 1 then insOk vars x.ins && x.var == 0 && x.label == 0
  else if x.kind = 2 then decide (x.ins = zeroIns) && x.var == 0 && decide (0 ≤ x.label)
  else if x.kind = 3 then decide (x.ins = zeroIns) && x.var == 0 && decide (0 ≤ x.label)
  else if x.kind = 4 then decide (x.ins = zeroIns) && isV x.var vars && decide (0 ≤ x.label)
  else if x.kind = 5 then decide (x.ins = zeroIns) && x.var == 0 && x.label == 0
  else false
theorem refLine_eq (l : Linear) (i : Nat) (x : Line) : refLine l i x = (plainL l.vars x && (!(x.kind == 2) || whereL l.code x.label == (i : Int)) && (!(x.kind == 3 || x.kind == 4) || decide (0 ≤ whereL l.code x.label))) := by
  unfold refLine plainL
  by_cases h1 : x.kind = 1
  · simp [h1]
  by_cases h2 : x.kind = 2
  · simp [h2]
  by_cases h3 : x.kind = 3
  · simp [h3]
  by_cases h4 : x.kind = 4
  · simp [h4]
  by_cases h5 : x.kind = 5
  · simp [h5]
  simp [h1, h2, h3, h4, h5]
theorem lineSeen_eq (vars : Int) (h0 : 0 ≤ vars) (h1 : vars ≤ 16384) (x : Line) (s : List Int) : lineSeen vars x s = if (plainL vars x && !(x.kind == 2 && decide (x.label ∈ s))) = true then some (if x.kind = 2 then s ++ [x.label] else s) else none := by
  have hf : (Flat.mk vars [] [] 0 [.mk 1 x.ins 0 [] [] []]).ok = insOk vars x.ins := by
    simp [Flat.ok, headOk, paramsOk, nodesCount, Node.count, nodesOk, Node.ok, h0, h1]
  unfold lineSeen plainL
  rw [hf]
  by_cases k1 : x.kind = 1
  · simp [k1, and_assoc]
  by_cases k2 : x.kind = 2
  · by_cases hm : x.label ∈ s
    · simp [k2, hm]
    · simp [k2, hm, and_assoc]
  by_cases k3 : x.kind = 3
  · simp [k3, and_assoc]
  by_cases k4 : x.kind = 4
  · simp only [k4, isV]
    simp
    by_cases a : x.ins = zeroIns <;> by_cases b : 0 ≤ x.var <;> by_cases c : x.var < vars <;> by_cases d : 0 ≤ x.label <;> simp [a, b, c, d]
  by_cases k5 : x.kind = 5
  · simp [k5, and_assoc]
  simp [k1, k2, k3, k4, k5]
def idxAll (p : Nat → Line → Bool) : List Line → Nat → Bool
  | [], _ => true
  | x :: r, i => p i x && idxAll p r (i + 1)
theorem seen_iff (vars : Int) (h0 : 0 ≤ vars) (h1 : vars ≤ 16384) (code : List Line) : ∀ (rest pre : List Line) (s : List Int), code = pre ++ rest → (∀ v, v ∈ s ↔ Stands pre v) →
    match linesSeen vars rest s with
    | none => idxAll (fun i x => plainL vars x && (!(x.kind == 2) || whereL code x.label == (i : Int))) rest pre.length = false
    | some s' => idxAll (fun i x => plainL vars x && (!(x.kind == 2) || whereL code x.label == (i : Int))) rest pre.length = true ∧ ∀ v, v ∈ s' ↔ Stands code v := by
  intro rest
  induction rest with
  | nil => intro pre s hc hs; simp only [linesSeen, idxAll]; refine ⟨trivial, ?_⟩; rw [hc, List.append_nil]; exact hs
  | cons x rest ih =>
    intro pre s hc hs
    simp only [linesSeen, idxAll, lineSeen_eq vars h0 h1]
    by_cases hp : plainL vars x = true
    · by_cases hk : x.kind = 2
      · have hw := where_at pre rest x hk
        rw [← hc] at hw
        by_cases hm : x.label ∈ s
        · have : ¬ whereL code x.label = (pre.length : Int) := by rw [hw]; exact fun h => h ((hs _).1 hm)
          simp [hp, hk, hm, this]
        · have he : whereL code x.label = (pre.length : Int) := hw.2 (fun h => hm ((hs _).2 h))
          simp only [hp, hk, hm, he, decide_false, Bool.and_false, Bool.not_false, Bool.and_true, if_true, Option.bind_some, beq_self_eq_true, Bool.not_true, Bool.false_or, Bool.true_and]
          have := ih (pre ++ [x]) (s ++ [x.label]) (by rw [hc]; simp) (by
            intro v
            simp only [List.mem_append, List.mem_singleton, hs, Stands]
            constructor
            · rintro (⟨y, hy, h⟩ | rfl)
              · exact ⟨y, .inl hy, h⟩
              · exact ⟨x, .inr rfl, hk, rfl⟩
            · rintro ⟨y, hy | rfl, h⟩
              · exact .inl ⟨y, hy, h⟩
              · exact .inr h.2.symm)
          simpa using this
      · simp only [hp, hk, Bool.true_and, if_false]
        have e : (x.kind == 2) = false := by simp [hk]
        simp only [e, Bool.false_and, Bool.not_false, if_true, Option.bind_some, Bool.true_or, Bool.true_and]
        have := ih (pre ++ [x]) s (by rw [hc]; simp) (by
          intro v
          rw [hs]
          simp only [Stands, List.mem_append, List.mem_singleton]
          constructor
          · rintro ⟨y, hy, h⟩; exact ⟨y, .inl hy, h⟩
          · rintro ⟨y, hy | rfl, h⟩
            · exact ⟨y, hy, h⟩
            · exact absurd h.1 hk)
        simpa using this
    · simp only [Bool.not_eq_true] at hp
      simp [hp]
theorem refLines_eq (l : Linear) (c : List Line) (i : Nat) : refLines l c i = (idxAll (fun i x => plainL l.vars x && (!(x.kind == 2) || whereL l.code x.label == (i : Int))) c i && c.all fun x => !(x.kind == 3 || x.kind == 4) || decide (0 ≤ whereL l.code x.label)) := by
  induction c generalizing i with
  | nil => rfl
  | cons x c ih =>
    rw [refLines, idxAll, List.all_cons, ih, refLine_eq]
    generalize (plainL l.vars x && (!(x.kind == 2) || whereL l.code x.label == (i : Int))) = a
    generalize idxAll _ c (i + 1) = b
    cases a <;> cases b <;> simp
theorem refOk_eq (l : Linear) : l.refOk = l.ok := by
  have hh : (Flat.mk l.vars l.params l.rets l.frame []).ok = headOk l.vars l.params l.rets l.frame := by simp [Flat.ok, nodesCount, nodesOk]
  unfold Linear.refOk Linear.ok
  rw [hh]
  by_cases hhead : headOk l.vars l.params l.rets l.frame = true
  · have hv : 0 ≤ l.vars ∧ l.vars ≤ 16384 := by have := hhead; simp only [headOk, Bool.and_eq_true, decide_eq_true_eq] at this; omega
    have := seen_iff l.vars hv.1 hv.2 l.code l.code [] [] rfl (by intro v; simp [Stands])
    rw [refLines_eq]
    simp only [List.length_nil] at this
    congr 1
    cases hs : linesSeen l.vars l.code [] with
    | none => rw [hs] at this; simp only at this; rw [this]; rfl
    | some s =>
      rw [hs] at this
      simp only at this
      rw [this.1, Bool.true_and]
      rw [Bool.eq_iff_iff]
      simp only [List.all_eq_true, Bool.not_eq_true', List.any_eq_false, jumps, Bool.or_eq_true, Bool.and_eq_true, decide_eq_true_eq, decide_eq_false_iff_not, beq_iff_eq, where_pos, this.2, Bool.or_eq_false_iff, beq_eq_false_iff_ne]
      constructor
      · intro h x hx hc
        rcases h x hx with h | h
        · rcases hc.1 with hc | hc
          · exact h.1 hc
          · exact h.2 hc
        · exact hc.2 h
      · intro h x hx
        have := h x hx
        by_cases ha : Stands l.code x.label
        · exact .inr ha
        · left
          constructor
          · intro hk; exact this ⟨.inl hk, ha⟩
          · intro hk; exact this ⟨.inr hk, ha⟩
  · simp [hhead]
end Go.Proofs
namespace Go.Proofs
open Go.Mu
theorem arity_op {op : Int} (h : arity op = 1 ∨ arity op = 2 ∨ arity op = 3) : 4 ≤ op ∧ op ≤ 21 := by
  unfold arity at h
  split at h
  · omega
  · split at h
    · omega
    · split at h
      · omega
      · omega
theorem line_in {x : Line} (h : plainL 11 x = true) : LineIn x := by
  unfold plainL at h
  refine ⟨?_, fun hk => ?_, fun hk => ?_⟩
  · by_cases h1 : x.kind = 1
    · omega
    by_cases h2 : x.kind = 2
    · omega
    by_cases h3 : x.kind = 3
    · omega
    by_cases h4 : x.kind = 4
    · omega
    by_cases h5 : x.kind = 5
    · omega
    simp [h1, h2, h3, h4, h5] at h
  · simp [hk, isV] at h; exact ⟨h.1.2.1, h.1.2.2⟩
  · simp only [hk, if_true, Bool.and_eq_true] at h
    have h := h.1.1
    simp only [insOk, isV, Bool.or_eq_true, Bool.and_eq_true, beq_iff_eq, decide_eq_true_eq, Bool.not_eq_true'] at h
    unfold R11
    have ha := @arity_op x.ins.op
    rcases h with (((h | h) | h) | h) | h
    · omega
    · omega
    · rcases h with ⟨h, (h' | h') | h'⟩
      · have := ha (.inl h'.1.1); omega
      · have := ha (.inr (.inl h'.1.1)); omega
      · have := ha (.inr (.inr h'.1.1)); omega
    · omega
    · omega
def askLin (x : Line) : Linear := ⟨11, [], [], 0, if x.kind = 3 ∨ x.kind = 4 then [x, lineOf 2 0 x.label] else [x]⟩
theorem ask_plain {x : Line} (h : (askLin x).ok = true) : plainL 11 x = true := by
  rw [← refOk_eq] at h
  simp only [Linear.refOk, Bool.and_eq_true] at h
  have h2 := h.2
  have : ∃ r, (askLin x).code = x :: r := by unfold askLin; dsimp only; split <;> exact ⟨_, rfl⟩
  obtain ⟨r, hr⟩ := this
  rw [hr, refLines, refLine_eq] at h2
  simp only [Bool.and_eq_true] at h2
  exact h2.1.1.1
def lineMake (x : Line) : List Amd × Int :=
  if (x.kind = 2 ∨ x.kind = 3 ∨ x.kind = 4) ∧ 1048576 < x.label then ([], 2)
  else if wrongL (askLin x) ≠ 0 then ([], wrongL (askLin x)) else (lineL x x.label, 0)
theorem wrong_line {x : Line} (h : wrongL (askLin x) = 0) : LineIn x := by
  unfold wrongL at h
  by_cases hok : (askLin x).ok = true
  · exact line_in (ask_plain hok)
  · simp [hok] at h
end Go.Proofs
namespace Go.Proofs
open Go.Mu
@[simp] theorem avCells_vx (z : Nat) (es : List (List AV)) : avCells (.vx z es) = some [.vx z es] := (rfl)
@[simp] theorem one_vx (z : Nat) (es : List (List AV)) : AV.one (.vx z es) = true := (rfl)
@[simp] theorem frzB_vx (z : Nat) (es : List (List AV)) : AV.frzB (.vx z es) = true := (rfl)
theorem Line_ok (x : Line) (H : List Blk) : ACalls Try.prog 18 [.agg x.cells] H (fun e H' => e = .ret (.tup [Amd.sl (lineMake x).1, I (lineMake x).2]) ∧ H' = H) := by
  refine acalls_tidy (acalls_weakE (acalls_of_vc (hn := fun d => d == 1000009) (od := fun i => if i = 1 then some [(0, []), (1, []), (2, []), (3, []), (4, []), (5, [0, 2, 3]), (6, [])] else none) Try.func18 rfl (by kernel_rfl) ?_))
  have c := regs_ok
  simp -dsimp
  refine callDW_intro (c _) ?_
  simp -dsimp
  refine ⟨?_, ?_⟩
  · refine callDW_intro (c _) ?_
    simp -dsimp
  have w2 : ∀ k, x.kind = k → (k = 3 ∨ k = 4) → ∀ H, ACalls Try.prog 47 [.agg [I 11, nilS, nilS, I 0, .vs 11 [[I k, I x.ins.kind, I x.ins.op, I x.ins.d, I x.ins.a, I x.ins.b, I x.ins.c, U x.ins.word, Bo x.ins.stack, I x.var, I x.label], [I 2, I 0, I 0, I 0, I 0, I 0, I 0, U 0, Bo false, I 0, I x.label]]]] H (fun e H' => e = .ret (I (wrongL (askLin x))) ∧ H' = H) := by
    intro k hk hk2 H
    subst hk
    have e : askLin x = ⟨11, [], [], 0, [x, lineOf 2 0 x.label]⟩ := by simp [askLin, hk2]
    rw [e]
    exact acalls_weak (.cons (.aggL (.cons (.refl _) (.cons (.nil 1) (.cons (.nil 1) (.cons (.refl _) (.cons (.refl _) .nil)))))) .nil) (wrong_ok ⟨11, [], [], 0, [x, lineOf 2 0 x.label]⟩ (by simp) (by simp) (by simp) H)
  have w1 : ∀ k, x.kind = k → ¬ (k = 3 ∨ k = 4) → ∀ H, ACalls Try.prog 47 [.agg [I 11, nilS, nilS, I 0, .vx 11 [[I k, I x.ins.kind, I x.ins.op, I x.ins.d, I x.ins.a, I x.ins.b, I x.ins.c, U x.ins.word, Bo x.ins.stack, I x.var, I x.label]]]] H (fun e H' => e = .ret (I (wrongL (askLin x))) ∧ H' = H) := by
    intro k hk hk2 H
    subst hk
    have e : askLin x = ⟨11, [], [], 0, [x]⟩ := by simp [askLin, hk2]
    rw [e]
    exact acalls_weak (.cons (.aggL (.cons (.refl _) (.cons (.nil 1) (.cons (.nil 1) (.cons (.refl _) (.cons (.vx _ _) .nil)))))) .nil) (wrong_ok ⟨11, [], [], 0, [x]⟩ (by simp) (by simp) (by simp) H)
  have l1 : ∀ k, x.kind = k → wrongL (askLin x) = 0 → ∀ H, ACalls Try.prog 48 [.agg [I k, I x.ins.kind, I x.ins.op, I x.ins.d, I x.ins.a, I x.ins.b, I x.ins.c, U x.ins.word, Bo x.ins.stack, I x.var, I x.label], I x.label] H (fun e H' => e = .ret (Amd.sl (lineL x x.label)) ∧ H' = H) := by
    intro k hk h0 H; subst hk; exact line_ok x x.label (wrong_line h0) H
  repeat' ((with_reducible first | refine And.intro ?_ ?_ | refine guardVW_introTD (fun _ => ?_) (fun _ => ?_) | refine guardVW_introFD (fun _ => ?_) (fun _ => ?_) | refine condVW_introD (fun _ => ?_) (fun _ => ?_) | refine guardVW_introTE (fun _ => ?_) (fun _ _ _ => ?_) | refine guardVW_introFE (fun _ => ?_) (fun _ _ _ => ?_) | refine condVW_introE (fun _ => ?_) (fun _ _ _ => ?_) | refine guardVW_introTNE (fun _ _ _ => ?_) (fun _ => ?_) | refine guardVW_introFNE (fun _ _ _ => ?_) (fun _ => ?_) | refine condVW_introNE (fun _ _ _ => ?_) (fun _ => ?_) | refine guardVW_introTB (fun _ => ?_) (fun _ => ?_) | refine guardVW_introFB (fun _ => ?_) (fun _ => ?_) | refine condVW_introB (fun _ => ?_) (fun _ => ?_) | refine guardVW_introT (fun _ => ?_) (fun _ => ?_) | refine guardVW_introF (fun _ => ?_) (fun _ => ?_) | refine condVW_intro (fun _ => ?_) (fun _ => ?_) | refine acallsW_det (c _) ?_ | refine callDW_intro (c _) ?_ | refine acallsW_det (w2 _ (by assumption) (by omega) _) ?_ | refine callDW_intro (w2 _ (by assumption) (by omega) _) ?_ | refine acallsW_det (w1 _ (by assumption) (by omega) _) ?_ | refine callDW_intro (w1 _ (by assumption) (by omega) _) ?_ | refine acallsW_det (w1 _ rfl (by omega) _) ?_ | refine callDW_intro (w1 _ rfl (by omega) _) ?_ | refine acallsW_det (l1 _ (by assumption) (by assumption) _) ?_ | refine callDW_intro (l1 _ (by assumption) (by assumption) _) ?_ | refine acallsW_det (l1 _ rfl (by assumption) _) ?_ | refine callDW_intro (l1 _ rfl (by assumption) _) ?_) <;> simp -dsimp [*])
  all_goals first
    | (refine tidy_weak (.tupL (.cons (.nil 13) (.cons (.refl _) .nil))) (tidy_same rfl ⟨?_, rfl⟩); simp [lineMake, *]; done)
    | (refine tidy_weak (.refl _) (tidy_same rfl ⟨?_, rfl⟩); simp [lineMake, *]; done)
    | trace_state
end Go.Proofs
namespace Go.Proofs
open Go.Mu
def knownA : Line := ⟨1, ⟨3, 6, 2, 0, 1, 0, 0, false⟩, 0, 0⟩
def knownB : Line := ⟨4, zeroIns, 0, 5⟩
def knownAL : List Amd := [amov 0 3, amd 5 1 0 0 0 5, amov 6 0]
def knownBL : List Amd := [amd 12 0 0 0 3 3, ⟨18, 0, 0, 4, 0, 0, 0, 0, 0, false, false, 0, 5⟩]
theorem knownA_eq : lineMake knownA = (knownAL, 0) := by decide
theorem knownB_eq : lineMake knownB = (knownBL, 0) := by decide
theorem known20_ok (H : List Blk) : ACalls Try.prog 20 [] H (fun e H' => e = .ret (Bo true) ∧ H' = H) := by
  refine acalls_of_vc (hn := fun _ => false) (od := fun _ => none) Try.func20 rfl (by kernel_rfl) ?_
  have a := fun H => Line_ok knownA H
  have b := fun H => Line_ok knownB H
  simp only [knownA_eq, knownB_eq] at a b
  simp only [knownA, knownB, zeroIns, Line.cells] at a b
  have m := rmov_ok
  have sa := fun H => sameAmds_ok knownAL knownAL (by decide) H
  have sb := fun H => sameAmds_ok knownBL knownBL (by decide) H
  simp only [decide_true, knownAL, knownBL, Amd.sl, List.map_cons, List.map_nil, Amd.cells] at a b sa sb
  simp -dsimp
  repeat' ((with_reducible first | refine And.intro ?_ ?_ | refine guardVW_introTD (fun _ => ?_) (fun _ => ?_) | refine guardVW_introFD (fun _ => ?_) (fun _ => ?_) | refine condVW_introD (fun _ => ?_) (fun _ => ?_) | refine guardVW_introTE (fun _ => ?_) (fun _ _ _ => ?_) | refine guardVW_introFE (fun _ => ?_) (fun _ _ _ => ?_) | refine condVW_introE (fun _ => ?_) (fun _ _ _ => ?_) | refine guardVW_introTNE (fun _ _ _ => ?_) (fun _ => ?_) | refine guardVW_introFNE (fun _ _ _ => ?_) (fun _ => ?_) | refine condVW_introNE (fun _ _ _ => ?_) (fun _ => ?_) | refine guardVW_introTB (fun _ => ?_) (fun _ => ?_) | refine guardVW_introFB (fun _ => ?_) (fun _ => ?_) | refine condVW_introB (fun _ => ?_) (fun _ => ?_) | refine guardVW_introT (fun _ => ?_) (fun _ => ?_) | refine guardVW_introF (fun _ => ?_) (fun _ => ?_) | refine condVW_intro (fun _ => ?_) (fun _ => ?_) | refine acallsW_det (a _) ?_ | refine callDW_intro (a _) ?_ | refine acallsW_det (b _) ?_ | refine callDW_intro (b _) ?_ | refine acallsW_det (m _ _ _) ?_ | refine callDW_intro (m _ _ _) ?_ | refine acallsW_det (sa _) ?_ | refine callDW_intro (sa _) ?_ | refine acallsW_det (sb _) ?_ | refine callDW_intro (sb _) ?_) <;> simp -dsimp [*])
  all_goals trace_state
end Go.Proofs
namespace Go.Proofs
open Go.Mu
/-- Is this line's number a word? -/
def wordIn (x : Line) : Prop := 0 ≤ x.ins.word ∧ x.ins.word < 18446744073709551616
def rlong (x : Line) : Bool := x.kind == 1 && (x.ins.kind == 4 || x.ins.kind == 5) && (decide (IntKind.i64.wrap x.ins.word < -2147483648) || decide (2147483647 < IntKind.i64.wrap x.ins.word))
theorem rlong_eq {x : Line} (h : wordIn x) : rlong x = longIns x := by
  unfold rlong longIns
  rw [short_eq _ h.1 h.2]
  congr 1
  rw [Bool.eq_iff_iff]
  simp
  try omega
theorem ask_ok (l : Linear) (hp : l.params.length ≤ 2^40) (hr : l.rets.length ≤ 2^40) (hc : l.code.length ≤ 2^40) (hw : ∀ x ∈ l.code, wordIn x) (H : List Blk) : ACalls Try.prog 19 [.agg l.cells] H (fun e H' => e = .ret (I (wrongL l)) ∧ H' = H) := by
  refine acalls_tidy (acalls_of_vc (hn := fun _ => false) (od := fun _ => none) Try.func19 rfl (by kernel_rfl) ?_)
  have leaf : ∀ (L : List Blk) (c : Int), c = wrongL l → Tidy H (fun e H' => e = AE.ret (I (wrongL l)) ∧ H' = H) (AE.ret (AV.v (Value.int .i64 c))) (H ++ L) := fun L c hb => tidy_same rfl ⟨by rw [hb], rfl⟩
  replace leaf := Hid.mk leaf
  have hm := fun H => rlinear_ok l hp hr hc H
  rw [refOk_eq] at hm
  simp only [Linear.cells] at hm
  simp -dsimp
  repeat' ((with_reducible first | refine And.intro ?_ ?_ | refine guardVW_introTD (fun _ => ?_) (fun _ => ?_) | refine guardVW_introFD (fun _ => ?_) (fun _ => ?_) | refine condVW_introD (fun _ => ?_) (fun _ => ?_) | refine guardVW_introTE (fun _ => ?_) (fun _ _ _ => ?_) | refine guardVW_introFE (fun _ => ?_) (fun _ _ _ => ?_) | refine condVW_introE (fun _ => ?_) (fun _ _ _ => ?_) | refine guardVW_introTNE (fun _ _ _ => ?_) (fun _ => ?_) | refine guardVW_introFNE (fun _ _ _ => ?_) (fun _ => ?_) | refine condVW_introNE (fun _ _ _ => ?_) (fun _ => ?_) | refine guardVW_introTB (fun _ => ?_) (fun _ => ?_) | refine guardVW_introFB (fun _ => ?_) (fun _ => ?_) | refine condVW_introB (fun _ => ?_) (fun _ => ?_) | refine guardVW_introT (fun _ => ?_) (fun _ => ?_) | refine guardVW_introF (fun _ => ?_) (fun _ => ?_) | refine condVW_intro (fun _ => ?_) (fun _ => ?_) | refine acallsW_det (hm _) ?_ | refine callDW_intro (hm _) ?_) <;> simp -dsimp [*])
  · refine leaf.out _ _ ?_; simp [wrongL, *]
  · refine leaf.out _ _ ?_; simp [wrongL, *]
  rename_i hok hv
  have hbase : wrongL l = if l.code.any longIns = true then 3 else 0 := by simp [wrongL, hok, hv] <;> omega
  refine loop_rule (hn := fun _ => false) (od := fun _ => none) (fun (i : Nat) f H' => (∃ L, H' = H ++ ([Blk.box 30 [I l.vars, Int.sl l.params, Int.sl l.rets, I l.frame, Line.sl l.code]] ++ L)) ∧ f 1 = .bp H.length 0 ∧ f 3 = I i ∧ i ≤ l.code.length ∧ (l.code.drop i).any longIns = l.code.any longIns) (fun i => l.code.length - i) (by kernel_rfl) 0 (by refine ⟨⟨[], rfl⟩, ?_⟩; simp) ?_
  rintro i f H' ⟨⟨L, rfl⟩, f1, f3, hi, ht⟩
  obtain ⟨N, hN⟩ : ∃ N, N = H ++ ([Blk.box 30 [I l.vars, Int.sl l.params, Int.sl l.rets, I l.frame, Line.sl l.code]] ++ L) := ⟨_, rfl⟩
  have g1 : ∀ X, (N ++ X)[H.length]? = some (Blk.box 30 [I l.vars, Int.sl l.params, Int.sl l.rets, I l.frame, Line.sl l.code]) := by
    intro X; rw [hN]; simp
  have n1 := g1 []
  rw [List.append_nil] at n1
  have back : ∀ X, ∃ X', N ++ X = H ++ X' := fun X => ⟨_, by rw [hN, List.append_assoc]⟩
  have hbk : ∀ X, ∃ L, N ++ X = H ++ ([Blk.box 30 [I l.vars, Int.sl l.params, Int.sl l.rets, I l.frame, Line.sl l.code]] ++ L) := fun X => ⟨L ++ X, by rw [hN]; simp⟩
  rw [← hN]
  replace back := Hid.mk back
  replace hbk := Hid.mk hbk
  replace hi := Hid.mk hi
  replace hbase := Hid.mk hbase
  simp -dsimp [f1, f3, n1]
  refine condVW_introD (fun hlt => ?_) (fun hlt => ?_)
  · have hl := rlong_eq (hw _ (List.getElem_mem hlt))
    rw [drop_cons hlt, List.any_cons, ← hl] at ht
    have fail : Hid (rlong l.code[i] = true → ∀ X, Tidy H (fun e H' => e = AE.ret (I (wrongL l)) ∧ H' = H) (AE.ret (AV.v (Value.int .i64 3))) (N ++ X)) := ⟨fun h X => by
      obtain ⟨X', hX⟩ := back.out X
      rw [hX]
      refine leaf.out _ _ ?_
      rw [h, Bool.true_or] at ht
      rw [hbase.out, ← ht]; rfl⟩
    have next : Hid (rlong l.code[i] = false → ∀ X, ∃ y, l.code.length - y < l.code.length - i ∧ (∃ L, N ++ X = H ++ Blk.box 30 [I l.vars, Int.sl l.params, Int.sl l.rets, I l.frame, Line.sl l.code] :: L) ∧ IntKind.i64.wrap ((i : Int) + 1) = (y : Int) ∧ y ≤ l.code.length ∧ (l.code.drop y).any longIns = l.code.any longIns) := ⟨fun h X => by
      rw [h, Bool.false_or] at ht
      obtain ⟨L', hL⟩ := hbk.out X
      exact ⟨i + 1, by omega, ⟨L', by simpa using hL⟩, wrapS (by omega), by omega, ht⟩⟩
    replace hN := Hid.mk hN
    replace ht := Hid.mk ht
    replace hl := Hid.mk hl
    clear hm hw
    simp -dsimp [f1, f3, n1, g1, List.getElem?_eq_getElem, hlt]
    repeat' ((with_reducible first | refine And.intro ?_ ?_ | refine guardVW_introTD (fun _ => ?_) (fun _ => ?_) | refine guardVW_introFD (fun _ => ?_) (fun _ => ?_) | refine condVW_introD (fun _ => ?_) (fun _ => ?_) | refine guardVW_introTE (fun _ => ?_) (fun _ _ _ => ?_) | refine guardVW_introFE (fun _ => ?_) (fun _ _ _ => ?_) | refine condVW_introE (fun _ => ?_) (fun _ _ _ => ?_) | refine guardVW_introTNE (fun _ _ _ => ?_) (fun _ => ?_) | refine guardVW_introFNE (fun _ _ _ => ?_) (fun _ => ?_) | refine condVW_introNE (fun _ _ _ => ?_) (fun _ => ?_) | refine guardVW_introTB (fun _ => ?_) (fun _ => ?_) | refine guardVW_introFB (fun _ => ?_) (fun _ => ?_) | refine condVW_introB (fun _ => ?_) (fun _ => ?_) | refine guardVW_introT (fun _ => ?_) (fun _ => ?_) | refine guardVW_introF (fun _ => ?_) (fun _ => ?_) | refine condVW_intro (fun _ => ?_) (fun _ => ?_)) <;> simp -dsimp [*, List.getElem?_eq_getElem])
    all_goals first | refine fail.out ?_ _ | refine next.out ?_ _ | trace_state
    all_goals first | (simp [rlong, *]; done) | (simp [rlong, *]; omega) | trace_state
  · simp -dsimp [f1, f3, n1]
    obtain ⟨X', hX⟩ := back.out []
    rw [List.append_nil] at hX
    rw [hX]
    refine leaf.out _ _ ?_
    rw [drop_end hlt] at ht
    rw [hbase.out, ← ht]; rfl
end Go.Proofs
namespace Go.Proofs.Yteoimifnfkpdeaa.Lift
open Go.ChangeShapes Go.WideShapes Go.ChangeAt Go.RowKit Go.Mu Go.Proofs
section
variable {H : Type} {enc : TypeId × Value → H} {cx : Cx}
def insIn (x : Ins) : Prop := 0 ≤ x.word ∧ x.word < 18446744073709551616
theorem tells_i (t : TypeId) (h : Try.prog.underlying t = some (.int .i64)) (n : Nat) : Tells enc Try.prog cx n t (fun i : Int => [I i]) (fun _ => 1) (fun i => -9223372036854775808 ≤ i ∧ i ≤ 9223372036854775807) := tells_int h
theorem tells_u (t : TypeId) (h : Try.prog.underlying t = some (.int .u64)) (n : Nat) : Tells enc Try.prog cx n t (fun i : Int => [U i]) (fun _ => 1) (fun i => 0 ≤ i ∧ i < 18446744073709551616) := (tells_int h).map id (fun _ => rfl) (fun _ => Nat.le_refl _) (fun a h => by simp [IntKind.min, IntKind.max, IntKind.bits, IntKind.signed] at h ⊢; omega)
theorem tells_b (n : Nat) : Tells enc Try.prog cx n 4 (fun b : Bool => [Bo b]) (fun _ => 1) (fun _ => True) := tells_bool (by kernel_rfl)
theorem tells_ins : ∀ n, Tells enc Try.prog cx n 43 Ins.cells (fun _ => 1) insIn
  | 0 => tells_zero
  | n + 1 => (tells_struct (fl := [(39, 0, 1), (40, 1, 1), (3, 2, 1), (3, 3, 1), (3, 4, 1), (3, 5, 1), (41, 6, 1), (4, 7, 1)]) (by kernel_rfl) (by kernel_rfl)
      (tellsF_cons (tells_i 39 (by kernel_rfl) n) (tellsF_cons (tells_i 40 (by kernel_rfl) n) (tellsF_cons (tells_i 3 (by kernel_rfl) n) (tellsF_cons (tells_i 3 (by kernel_rfl) n) (tellsF_cons (tells_i 3 (by kernel_rfl) n) (tellsF_cons (tells_i 3 (by kernel_rfl) n)
        (tellsF_cons (tells_u 41 (by kernel_rfl) n) (tellsF_cons (tells_b n) tellsF_nil))))))))).map
      (fun (a0, a1, a2, a3, a4, a5, a6, a7, _) => ⟨a0, a1, a2, a3, a4, a5, a6, a7⟩) (fun _ => rfl) (fun _ => by simp) (fun a h => h.2.2.2.2.2.2.1)
theorem tells_line : ∀ n, Tells enc Try.prog cx n 45 Line.cells (fun _ => 1) wordIn
  | 0 => tells_zero
  | n + 1 => (tells_struct (fl := [(38, 0, 1), (43, 1, 8), (3, 9, 1), (3, 10, 1)]) (by kernel_rfl) (by kernel_rfl)
      (tellsF_cons (tells_i 38 (by kernel_rfl) n) (tellsF_cons (tells_ins n) (tellsF_cons (tells_i 3 (by kernel_rfl) n) (tellsF_cons (tells_i 3 (by kernel_rfl) n) tellsF_nil))))).map
      (fun (a0, a1, a2, a3, _) => ⟨a0, a1, a2, a3⟩) (fun _ => rfl) (fun _ => by simp) (fun a h => h.2.1)
theorem tells_ints (hΦ : ∀ b, b < cx.w.heap.size → cx.Φ b) (t e : TypeId) (ht : Try.prog.underlying t = some (.slice e)) (hs : Try.prog.cellsOf e = 1) (he : Try.prog.underlying e = some (.int .i64)) : ∀ n, Tells enc Try.prog cx n t (fun l : List Int => [Int.sl l]) (fun l => l.length) (fun _ => True)
  | 0 => tells_zero
  | n + 1 => (tells_slice ht hs (by omega) hΦ (tells_i e he n)).map id (fun _ => rfl) (fun l => by rw [sizes_one]; exact Nat.le_succ _) (fun _ _ => trivial)
theorem tells_lines (hΦ : ∀ b, b < cx.w.heap.size → cx.Φ b) : ∀ n, Tells enc Try.prog cx n 28 (fun l : List Line => [Line.sl l]) (fun l => l.length) (fun l => ∀ x ∈ l, wordIn x)
  | 0 => tells_zero
  | n + 1 => (tells_slice (t := 28) (e := 45) (sz := 11) (by kernel_rfl) (by kernel_rfl) (by omega) hΦ (tells_line n)).map id (fun _ => rfl) (fun l => by rw [sizes_one]; exact Nat.le_succ _) (fun _ h => h)
/-- Linear code as it comes in: short lists, words in their range. -/
structure Linear.In (l : Linear) : Prop where
  params : l.params.length ≤ 2^40
  rets : l.rets.length ≤ 2^40
  code : l.code.length ≤ 2^40
  words : ∀ x ∈ l.code, wordIn x
theorem tells_linear (hΦ : ∀ b, b < cx.w.heap.size → cx.Φ b) : ∀ n, Tells enc Try.prog cx n 30 Linear.cells (fun l => l.params.length + l.rets.length + l.code.length) (fun l => ∀ x ∈ l.code, wordIn x)
  | 0 => tells_zero
  | n + 1 => (tells_struct (fl := [(3, 0, 1), (22, 1, 1), (22, 2, 1), (3, 3, 1), (28, 4, 1)]) (by kernel_rfl) (by kernel_rfl)
      (tellsF_cons (tells_i 3 (by kernel_rfl) n) (tellsF_cons (tells_ints hΦ 22 3 (by kernel_rfl) (by kernel_rfl) (by kernel_rfl) n) (tellsF_cons (tells_ints hΦ 22 3 (by kernel_rfl) (by kernel_rfl) (by kernel_rfl) n) (tellsF_cons (tells_i 3 (by kernel_rfl) n) (tellsF_cons (tells_lines hΦ n) tellsF_nil)))))).map
      (fun (a0, a1, a2, a3, a4, _) => ⟨a0, a1, a2, a3, a4⟩) (fun _ => rfl) (fun ⟨a0, a1, a2, a3, a4, _⟩ => by simp only; omega) (fun a h => h.2.2.2.2.1)
end
theorem under45 : ∃ fs, Try.prog.underlying 45 = some (.struct fs) := ⟨_, Try.underlying45⟩
theorem arg_line {H : Type} {enc : TypeId × Value → H} {W : World} {base : Nat} : ArgOk enc Try.prog W base 45 (fun a => .agg (Line.cells a)) (fun _ => 1) wordIn := arg_struct Try.underlying45 tells_line
theorem arg_int {H : Type} {enc : TypeId × Value → H} {W : World} {base : Nat} : ArgOk enc Try.prog W base 3 I (fun _ => 1) (fun i => -9223372036854775808 ≤ i ∧ i ≤ 9223372036854775807) := arg_one (one_int Try.underlying3) (tells_i 3 (by kernel_rfl))
theorem arg_linear {H : Type} {enc : TypeId × Value → H} {W : World} {base : Nat} : ArgOk enc Try.prog W base 30 (fun a => .agg (Linear.cells a)) (fun l => l.params.length + l.rets.length + l.code.length) (fun l => ∀ x ∈ l.code, wordIn x) := arg_struct Try.underlying30 (tells_linear fun _ h => h)
end Go.Proofs.Yteoimifnfkpdeaa.Lift
