/- May linear code be. -/
import Derived.Test.YteoimifnfkpdeaaS12
set_option linter.unusedVariables false
set_option linter.unusedSimpArgs false
set_option maxHeartbeats 4000000
set_option maxRecDepth 100000
namespace Go.Proofs
open Go.Mu
/-- May a line be, where these labels stand; and which labels stand then. -/
def lineSeen (vars : Int) (x : Line) (seen : List Int) : Option (List Int) :=
  if x.kind = 1 then (if ((Flat.mk vars [] [] 0 [.mk 1 x.ins 0 [] [] []]).ok && (x.var == 0 && x.label == 0)) = true then some seen else none)
  else if x.kind = 2 then (if x.label ∈ seen then none else if x.ins = zeroIns ∧ x.var = 0 ∧ 0 ≤ x.label then some (seen ++ [x.label]) else none)
  else if x.kind = 4 then (if (0 ≤ x.var ∧ x.var < vars) ∧ x.ins = zeroIns ∧ 0 ≤ x.label then some seen else none)
  else if x.kind = 3 then (if x.ins = zeroIns ∧ x.var = 0 ∧ 0 ≤ x.label then some seen else none)
  else if x.kind = 5 then (if x.ins = zeroIns ∧ x.var = 0 ∧ x.label = 0 then some seen else none)
  else none
def linesSeen (vars : Int) : List Line → List Int → Option (List Int)
  | [], s => some s
  | x :: l, s => (lineSeen vars x s).bind (linesSeen vars l)
def jumps (s : List Int) (x : Line) : Bool := (x.kind == 3 || x.kind == 4) && !decide (x.label ∈ s)
def Linear.ok (l : Linear) : Bool :=
  decide (l.code.length ≤ 65536) && (Flat.mk l.vars l.params l.rets l.frame []).ok && (match linesSeen l.vars l.code [] with | none => false | some s => !l.code.any (jumps s))
theorem linear_ok (l : Linear) (hp : l.params.length ≤ 2^40) (hr : l.rets.length ≤ 2^40) (hc : l.code.length ≤ 2^40) (H : List Blk) : ACalls Try.prog 15 [.agg l.cells] H (fun e H' => e = .ret (Bo l.ok) ∧ H' = H) := by
  refine acalls_tidy (acalls_of_vc (hn := fun _ => false) (od := fun _ => none) Try.func15 rfl (by kernel_rfl) ?_)
  have leaf : ∀ (L : List Blk) (c : Bool), c = l.ok → Tidy H (fun e H' => e = AE.ret (Bo l.ok) ∧ H' = H) (AE.ret (AV.v (Value.bool c))) (H ++ L) := fun L c hb => tidy_same rfl ⟨by rw [hb], rfl⟩
  replace leaf := Hid.mk leaf
  have hm1 := fun H => acalls_weak (args := [.agg [I l.vars, Int.sl l.params, Int.sl l.rets, I l.frame, nilS]]) (.cons (.aggL (.cons (.refl _) (.cons (.refl _) (.cons (.refl _) (.cons (.refl _) (.cons (.nil 13) .nil)))))) .nil) (may_ok ⟨l.vars, l.params, l.rets, l.frame, []⟩ hp hr (by simp [nodesCount]) H)
  have hm2 := fun (x : Line) H => acalls_weak (args := [.agg [I l.vars, nilS, nilS, I 0, .vs 13 [[I 1, I x.ins.kind, I x.ins.op, I x.ins.d, I x.ins.a, I x.ins.b, I x.ins.c, U x.ins.word, Bo x.ins.stack, I 0, nilS, nilS, nilS]]]])
    (.cons (.aggL (.cons (.refl _) (.cons (.nil 1) (.cons (.nil 1) (.cons (.refl _) (.cons (.vsR (.cons (.append (.refl [I 1, I x.ins.kind, I x.ins.op, I x.ins.d, I x.ins.a, I x.ins.b, I x.ins.c, U x.ins.word, Bo x.ins.stack, I 0]) (.cons (.nil 13) (.cons (.nil 13) (.cons (.nil 13) .nil)))) .nil)) .nil)))))) .nil)
    (may_ok ⟨l.vars, [], [], 0, [.mk 1 x.ins 0 [] [] []]⟩ (by simp) (by simp) (by simp [nodesCount, Node.count]) H)
  simp -dsimp
  repeat' ((with_reducible first | refine And.intro ?_ ?_ | refine guardVW_introTD (fun _ => ?_) (fun _ => ?_) | refine guardVW_introFD (fun _ => ?_) (fun _ => ?_) | refine condVW_introD (fun _ => ?_) (fun _ => ?_) | refine guardVW_introTE (fun _ => ?_) (fun _ _ _ => ?_) | refine guardVW_introFE (fun _ => ?_) (fun _ _ _ => ?_) | refine condVW_introE (fun _ => ?_) (fun _ _ _ => ?_) | refine guardVW_introTNE (fun _ _ _ => ?_) (fun _ => ?_) | refine guardVW_introFNE (fun _ _ _ => ?_) (fun _ => ?_) | refine condVW_introNE (fun _ _ _ => ?_) (fun _ => ?_) | refine guardVW_introTB (fun _ => ?_) (fun _ => ?_) | refine guardVW_introFB (fun _ => ?_) (fun _ => ?_) | refine condVW_introB (fun _ => ?_) (fun _ => ?_) | refine guardVW_introT (fun _ => ?_) (fun _ => ?_) | refine guardVW_introF (fun _ => ?_) (fun _ => ?_) | refine condVW_intro (fun _ => ?_) (fun _ => ?_) | refine acallsW_det (hm1 _) ?_ | refine callDW_intro (hm1 _) ?_) <;> simp -dsimp [*])
  · refine leaf.out _ _ ?_
    rename_i h
    simp [Linear.ok]; omega
  · refine leaf.out _ _ ?_
    rename_i h
    simp [Linear.ok, h]
  rename_i h64 hhead
  have hl64 : l.code.length ≤ 65536 := by omega
  obtain ⟨M, hM⟩ : ∃ M, M = H ++ [Blk.box 30 [I l.vars, Int.sl l.params, Int.sl l.rets, I l.frame, Line.sl l.code], .map [], .box 106 [.hm (H.length + 1)]] := ⟨_, rfl⟩
  have hMl : M.length = H.length + 3 := by rw [hM]; simp
  have hM0 : M = M.set (H.length + 1) (.map (stand [])) ++ [] := by
    rw [List.append_nil, hM]; simp [stand]
  rw [← hM]
  refine loop_rule (hn := fun _ => false) (od := fun _ => none) (fun (i : Nat) f H' => (∃ seen L, H' = M.set (H.length + 1) (.map (stand seen)) ++ L ∧ linesSeen l.vars (l.code.drop i) seen = linesSeen l.vars l.code []) ∧ f 1 = .bp H.length 0 ∧ f 3 = .bp (H.length + 2) 0 ∧ f 26 = Line.sl l.code ∧ f 27 = I l.code.length ∧ f 28 = I i ∧ i ≤ l.code.length) (fun i => l.code.length - i) (by kernel_rfl) 0 (by refine ⟨⟨[], [], hM0, rfl⟩, ?_⟩; simp) ?_
  rintro i f H' ⟨⟨seen, L, rfl, hseen⟩, f1, f3, f26, f27, f28, hi⟩
  have back : ∀ X, ∃ X', M.set (H.length + 1) (.map (stand seen)) ++ L ++ X = H ++ X' := by
    intro X; rw [hM, List.set_append_right _ _ (by omega)]; simp only [List.append_assoc]; exact ⟨_, rfl⟩
  obtain ⟨N, hN⟩ : ∃ N, N = M.set (H.length + 1) (.map (stand seen)) ++ L := ⟨_, rfl⟩
  have hNl : H.length + 1 < N.length := by rw [hN]; simp; omega
  have g1 : ∀ X, (N ++ X)[H.length]? = some (Blk.box 30 [I l.vars, Int.sl l.params, Int.sl l.rets, I l.frame, Line.sl l.code]) := by
    intro X; rw [hN, hM]; simp
  have g2 : ∀ X, (N ++ X)[H.length + 2]? = some (.box 106 [.hm (H.length + 1)]) := by
    intro X; rw [hN, hM]; simp
  have g3 : ∀ X, mapEs (N ++ X) (.hm (H.length + 1)) = some (stand seen) := by
    intro X; rw [hN, hM]; simp [mapEs]
  have g1' : ∀ Y X, (N.set (H.length + 1) Y ++ X)[H.length]? = some (Blk.box 30 [I l.vars, Int.sl l.params, Int.sl l.rets, I l.frame, Line.sl l.code]) := by
    intro Y X; rw [hN, hM]; simp
  rw [← hN]
  have gs : ∀ X Y, (N ++ X).set (H.length + 1) Y = N.set (H.length + 1) Y ++ X := by
    intro X Y; rw [List.set_append_left _ _ hNl]
  have e1 := fun Y X => m1_getE (H := N) (k := H.length + 1) Y X
  have e2 := fun Y X j => m1_getN (H := N) (k := H.length + 1) Y X j
  have e3 := fun Y Z X => m1_setE (H := N) (k := H.length + 1) Y Z X
  have e4 := fun Y Z X j => m1_setN (H := N) (k := H.length + 1) Y Z X j
  have hkM : H.length + 1 < M.length := by omega
  have backL : ∀ Y X, ∃ X', N.set (H.length + 1) Y ++ X = H ++ X' := by
    intro Y X; rw [hN, m1_set hkM, hM, List.set_append_right _ _ (by omega)]; simp only [List.append_assoc]; exact ⟨_, rfl⟩
  replace back := Hid.mk back
  replace backL := Hid.mk backL
  replace hM := Hid.mk hM
  replace hM0 := Hid.mk hM0
  replace hN := Hid.mk hN
  replace hseen := Hid.mk hseen
  replace hi := Hid.mk hi
  simp -dsimp [f1, f3, f26, f27, f28]
  refine condVW_introD (fun hlt => ?_) (fun hlt => ?_)
  · have hf := stand_find l.code[i].label seen
    have hset := stand_set l.code[i].label seen
    have fail : Hid (lineSeen l.vars l.code[i] seen = none → ∀ X, Tidy H (fun e H' => e = AE.ret (Bo l.ok) ∧ H' = H) (AE.ret (AV.v (Value.bool false))) (N ++ X)) := ⟨fun h X => by
      obtain ⟨X', hX⟩ := back.out X
      rw [hN.out, hX]
      refine leaf.out _ _ ?_
      have h2 := hseen.out
      rw [drop_cons hlt, linesSeen, h] at h2
      simp only [Option.bind_none] at h2
      simp [Linear.ok, ← h2]⟩
    have failL : Hid (lineSeen l.vars l.code[i] seen = none → ∀ Y X, Tidy H (fun e H' => e = AE.ret (Bo l.ok) ∧ H' = H) (AE.ret (AV.v (Value.bool false))) (N.set (H.length + 1) Y ++ X)) := ⟨fun h Y X => by
      obtain ⟨X', hX⟩ := backL.out Y X
      rw [hX]
      refine leaf.out _ _ ?_
      have h2 := hseen.out
      rw [drop_cons hlt, linesSeen, h] at h2
      simp only [Option.bind_none] at h2
      simp [Linear.ok, ← h2]⟩
    have next : Hid (lineSeen l.vars l.code[i] seen = some seen → ∀ X, ∃ y, l.code.length - y < l.code.length - i ∧ (∃ seen, (∃ x, N ++ X = M.set (H.length + 1) (.map (stand seen)) ++ x) ∧ linesSeen l.vars (l.code.drop y) seen = linesSeen l.vars l.code []) ∧ IntKind.i64.wrap ((i : Int) + 1) = (y : Int) ∧ y ≤ l.code.length) := ⟨fun h X => by
      have h2 := hseen.out
      rw [drop_cons hlt, linesSeen, h] at h2
      simp only [Option.bind_some] at h2
      exact ⟨i + 1, by omega, ⟨seen, ⟨L ++ X, by rw [hN.out, List.append_assoc]⟩, h2⟩, wrapS (by omega), by omega⟩⟩
    have nextL : Hid (lineSeen l.vars l.code[i] seen = some (seen ++ [l.code[i].label]) → ∀ X, ∃ y, l.code.length - y < l.code.length - i ∧ (∃ seen_1, (∃ x, N.set (H.length + 1) (.map (stand (seen ++ [l.code[i].label]))) ++ X = M.set (H.length + 1) (.map (stand seen_1)) ++ x) ∧ linesSeen l.vars (l.code.drop y) seen_1 = linesSeen l.vars l.code []) ∧ IntKind.i64.wrap ((i : Int) + 1) = (y : Int) ∧ y ≤ l.code.length) := ⟨fun h X => by
      have h2 := hseen.out
      rw [drop_cons hlt, linesSeen, h] at h2
      simp only [Option.bind_some] at h2
      exact ⟨i + 1, by omega, ⟨_, ⟨L ++ X, by rw [hN.out, m1_set hkM, List.append_assoc]⟩, h2⟩, wrapS (by omega), by omega⟩⟩
    simp -dsimp [f1, f3, f26, f27, f28, List.getElem?_eq_getElem, hlt]
    by_cases hmem : l.code[i].label ∈ seen
    all_goals (simp only [hmem, if_true, if_false, not_true, not_false_iff, true_implies, false_implies] at hf hset)
    all_goals repeat' ((with_reducible first | refine And.intro ?_ ?_ | refine guardVW_introTD (fun _ => ?_) (fun _ => ?_) | refine guardVW_introFD (fun _ => ?_) (fun _ => ?_) | refine condVW_introD (fun _ => ?_) (fun _ => ?_) | refine guardVW_introTE (fun _ => ?_) (fun _ _ _ => ?_) | refine guardVW_introFE (fun _ => ?_) (fun _ _ _ => ?_) | refine condVW_introE (fun _ => ?_) (fun _ _ _ => ?_) | refine guardVW_introTNE (fun _ _ _ => ?_) (fun _ => ?_) | refine guardVW_introFNE (fun _ _ _ => ?_) (fun _ => ?_) | refine condVW_introNE (fun _ _ _ => ?_) (fun _ => ?_) | refine guardVW_introTB (fun _ => ?_) (fun _ => ?_) | refine guardVW_introFB (fun _ => ?_) (fun _ => ?_) | refine condVW_introB (fun _ => ?_) (fun _ => ?_) | refine guardVW_introT (fun _ => ?_) (fun _ => ?_) | refine guardVW_introF (fun _ => ?_) (fun _ => ?_) | refine condVW_intro (fun _ => ?_) (fun _ => ?_) | refine acallsW_det (hm2 _ _) ?_ | refine callDW_intro (hm2 _ _) ?_) <;> simp -dsimp [*])
    all_goals first | refine fail.out ?_ _ | refine failL.out ?_ _ _ | refine next.out ?_ _ | refine nextL.out ?_ _
    all_goals clear hm1 hm2 g1 g2 g3 g1' gs e1 e2 e3 e4 f1 f3 f26 f27 f28 fail failL next nextL leaf back backL hf hset hN hM hM0
    all_goals try simp only [zero_ins] at *
    all_goals first | (simp_all [lineSeen]; done) | (simp_all [lineSeen]; omega) | (simp [lineSeen, *]; done) | grind [lineSeen]
  · have hcf := containsFuncL_ok (g := 45) (cap := [.bp (H.length + 2) 0]) (jumps seen) l.code N (by omega) (by kernel_rfl) (fun x _ => jumps_ok x seen (H.length + 2) (H.length + 1) N (by simpa using g2 []) (by have := g3 []; simp only [mapEs, List.append_nil] at this; revert this; split <;> simp_all))
    have n1 := g1 []
    have n2 := g2 []
    simp only [List.append_nil] at n1 n2
    simp -dsimp [f1, f3, f26, f27, f28, n1]
    repeat' ((with_reducible first | refine And.intro ?_ ?_ | refine guardVW_introTD (fun _ => ?_) (fun _ => ?_) | refine guardVW_introFD (fun _ => ?_) (fun _ => ?_) | refine condVW_introD (fun _ => ?_) (fun _ => ?_) | refine guardVW_introTE (fun _ => ?_) (fun _ _ _ => ?_) | refine guardVW_introFE (fun _ => ?_) (fun _ _ _ => ?_) | refine condVW_introE (fun _ => ?_) (fun _ _ _ => ?_) | refine guardVW_introTNE (fun _ _ _ => ?_) (fun _ => ?_) | refine guardVW_introFNE (fun _ _ _ => ?_) (fun _ => ?_) | refine condVW_introNE (fun _ _ _ => ?_) (fun _ => ?_) | refine guardVW_introTB (fun _ => ?_) (fun _ => ?_) | refine guardVW_introFB (fun _ => ?_) (fun _ => ?_) | refine condVW_introB (fun _ => ?_) (fun _ => ?_) | refine guardVW_introT (fun _ => ?_) (fun _ => ?_) | refine guardVW_introF (fun _ => ?_) (fun _ => ?_) | refine condVW_intro (fun _ => ?_) (fun _ => ?_) | refine acallsW_det (hcf) ?_ | refine callDW_intro (hcf) ?_) <;> simp -dsimp [*])
    obtain ⟨X', hX⟩ := back.out []
    rw [List.append_nil, ← hN.out] at hX
    rw [hX]
    refine leaf.out _ _ ?_
    have h2 := hseen.out
    rw [drop_end hlt, linesSeen] at h2
    simp [Linear.ok, ← h2, hhead, hl64]
end Go.Proofs
