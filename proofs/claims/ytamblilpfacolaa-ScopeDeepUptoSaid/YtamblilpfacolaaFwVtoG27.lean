/- A call that is handed in what it may only read: own memory stays as it is, whatever own rows the arguments show. -/
import Derived.Test.YtamblilpfacolaaFwUtoG24
set_option linter.unusedVariables false
set_option linter.unusedSimpArgs false
set_option maxHeartbeats 4000000
set_option maxRecDepth 100000
namespace Go.Mu
open Go.RowKit (Below)
section
variable {P : Program}
/-- What arguments show of own memory. -/
def Shows (H : List Blk) (args args' : List AV) : Prop := ∀ B w0 cx vals, HRel B w0 cx → cx.H = H → RepL cx false args vals → ∃ cx1, HRel B w0 cx1 ∧ cx1.w = cx.w ∧ RepL cx1 false args' vals
theorem Shows.refl (H : List Blk) (args : List AV) : Shows H args args := fun B w0 cx vals h1 h2 h3 => ⟨cx, h1, rfl, h3⟩
/-- A row of the call's own shows what it holds. -/
theorem Shows.row {H : List Blk} {args args' : List AV} (k sz : Nat) (t : TypeId) (es : List (List AV)) (hk : H[k]? = some (.row t sz es)) (hz : es.flatten.all AV.frzB = true) (h : Shows (frzH k sz es H) (frzL k sz es args) args') : Shows H args args' := by
  intro B w0 cx vals h1 h2 h3
  subst h2
  obtain ⟨cx1, a, b, c⟩ := h B w0 (cx.frz k sz es) vals (hrel_frz h1 hk hz) rfl (repL_frz h1 hk hz h3)
  exact ⟨cx1, a, b, c⟩
theorem acalls_apart {fid : FuncId} {args args' : List AV} {H : List Blk} {x : Value} (hs : Shows H args args') (hu : underL 0 args' = true) (h : ACalls P fid args' [] (fun e H' => e = .ret (.v x) ∧ H' = [])) :
    ACalls P fid args H (fun e H' => e = .ret (.v x) ∧ H' = H) := by
  intro B w0 cx vals h1 h2 h3
  subst h2
  obtain ⟨cx1, a1, a2, a3⟩ := hs B w0 cx vals h1 rfl h3
  have e1 : cx1.H = [] ++ cx1.H := rfl
  have r1 := repL_cut e1 a3 hu
  have hr : HRel cx.w.heap.size cx.w (cx1.cut []) := by
    refine ⟨?_, ?_, fun b hb => ?_, fun k bl hk => ?_, fun k k' bl bl' hk => ?_⟩
    · show Below _ cx.w cx1.w
      rw [a2]; exact Below.refl _ _
    · show _ ≤ cx1.w.heap.size
      rw [a2]; exact Nat.le_refl _
    · exact a1.frz b hb
    · simp [Cx.cut] at hk
    · simp [Cx.cut] at hk
  have := h cx.w.heap.size cx.w (cx1.cut []) vals hr rfl r1
  rw [show (cx1.cut []).w = cx.w from a2] at this
  refine this.mono fun e w' he => ?_
  cases e with
  | returned y =>
    obtain ⟨cx', r, rfl, b1, b2, b3, b4, b5⟩ := he
    cases b4
    have hb : Below cx.w.heap.size cx.w cx'.w := b1.below
    refine ⟨{ cx with w := cx'.w }, .v x, rfl, hrel_ext h1 hb, ⟨fun b o x hf hc => ?_, fun b h => h, fun k bl hk hf => ⟨bl, hk, hf, rfl⟩, fun k t sz es hk => .inr ⟨es, hk, Nat.le_refl _, fun _ => ⟨rfl, rfl⟩⟩⟩, ?_, rfl, rfl⟩
    · show cx'.w.cell? _ = _
      rw [hb.cell (h1.frz b hf)]; exact hc
    · obtain rfl := b3.v_inv
      exact .v _
  | panicked ch => obtain ⟨cx', x', y, rfl, b1, b2, b3, b4, b5, b6⟩ := he; cases b5
  | outgrown => exact he
end
end Go.Mu
namespace Go.Proofs
open Go.Mu
abbrev nF : ByteArray := ⟨#[102]⟩
abbrev nX : ByteArray := ⟨#[120]⟩
abbrev nR : ByteArray := ⟨#[114]⟩
abbrev nA : ByteArray := ⟨#[97]⟩
abbrev nY : ByteArray := ⟨#[121]⟩
def oneVars (n : Int) : List Vr := [⟨nX, 1, 0, false⟩, ⟨nR, 2, n, false⟩]
def oneN (n : Int) (body : List Sm) : Pg := ⟨[], [⟨nF, [], oneVars n, [], body⟩]⟩
abbrev oneP (body : List Sm) : Pg := oneN 2 body
def e0 : Ex := .mk 0 0 ByteArray.empty []
def setS (n : ByteArray) (e : Ex) : Sm := .mk 1 n [] e e0 [] 0 0 [] []
def ifS (b : List Sm) : Sm := .mk 3 ByteArray.empty [] (.mk 1 0 ByteArray.empty []) e0 [] 0 0 b []
def k1 : Pg := oneP []
def k2 : Pg := ⟨[], []⟩
def k3 : Pg := ⟨[⟨nA, 0, 1, false⟩, ⟨nA, 8, 1, false⟩], k1.funcs⟩
def k4 : Pg := ⟨[⟨nA, 4, 1, false⟩], k1.funcs⟩
def k5 : Pg := oneP [setS nY (.mk 1 0 ByteArray.empty [])]
def k6 : Pg := oneP [setS nR (.mk 1 0 ByteArray.empty [])]
def k7 : Pg := oneP [setS nX (.mk 1 3 ByteArray.empty [])]
theorem k1_may : mayE k1 = 0 := by kernel_rfl
theorem k2_may : mayE k2 = 13 := by kernel_rfl
theorem k3_may : mayE k3 = 8 := by kernel_rfl
theorem k4_may : mayE k4 = 14 := by kernel_rfl
theorem k5_may : mayE k5 = 8 := by kernel_rfl
theorem k6_may : mayE k6 = 9 := by kernel_rfl
theorem k7_may : mayE k7 = 0 := by kernel_rfl
def notE : Nat → Ex
  | 0 => .mk 2 0 nX []
  | n + 1 => .mk 4 0 ByteArray.empty [notE n]
def ifE : Nat → List Sm
  | 0 => []
  | n + 1 => [ifS (ifE n)]
theorem d1_may : mayE (oneP [setS nX (notE 63)]) = 0 := by kernel_rfl
theorem d2_may : mayE (oneP [setS nX (notE 64)]) = 12 := by kernel_rfl
theorem d3_may : mayE (oneP (ifE 64)) = 0 := by kernel_rfl
theorem d4_may : mayE (oneP (ifE 65)) = 12 := by kernel_rfl
theorem d5_may : mayE (oneN 512 []) = 0 := by kernel_rfl
theorem d6_may : mayE (oneN 513 []) = 13 := by kernel_rfl
end Go.Proofs
namespace Go.Proofs
open Go.Mu
theorem ok2_one (n : Int) (body : List Sm) (rs : List Rg) (h : decide (smsCount body ≤ 2^36) = true) (hr : decide (rs.length ≤ 2) = true) (hs : rs.all (fun r => decide (r.name.size ≤ 2^40)) = true) : Pg.Ok2 ⟨rs, (oneN n body).funcs⟩ := by
  have h := of_decide_eq_true h
  have hr := of_decide_eq_true hr
  have hs : ∀ r ∈ rs, r.name.size ≤ 2^40 := fun r hr => by have := List.all_eq_true.1 hs r hr; exact of_decide_eq_true this
  refine ⟨⟨?_, ?_, ?_, ?_, ?_, ?_⟩, ⟨hs, ?_⟩, ?_⟩
  · show rs.length ≤ _; omega
  · simp [oneN]
  · intro f hf; obtain rfl : f = _ := by simpa [oneN] using hf
    show smsCount body ≤ _; omega
  · intro f hf; obtain rfl : f = _ := by simpa [oneN] using hf
    simp
  · intro f hf; obtain rfl : f = _ := by simpa [oneN] using hf
    simp [oneVars]
  · intro f hf; obtain rfl : f = _ := by simpa [oneN] using hf
    simp
  · intro f hf; obtain rfl : f = _ := by simpa [oneN] using hf
    refine ⟨?_, ?_, ?_⟩
    · show ByteArray.size nF ≤ _; decide
    · intro v hv
      simp [oneVars] at hv
      rcases hv with rfl | rfl
      · show ByteArray.size nX ≤ _; decide
      · show ByteArray.size nR ≤ _; decide
    · intro s hs; simp at hs
  · intro f hf; obtain rfl : f = _ := by simpa [oneN] using hf
    exact h
theorem onep_ok (body : List Sm) (H : List Blk) : ACalls Try.prog 12 [Sm.sl body] H (fun e H' => e = .ret (.agg (oneP body).cells) ∧ H' = H) := by
  refine acalls_tidy (acalls_weakE (acalls_of_vc (hn := fun _ => false) (od := fun _ => none) Try.func12 rfl (by kernel_rfl) ?_))
  simp -dsimp
  refine tidy_weak (r' := .agg (oneP body).cells) ?_ (tidy_same rfl ⟨rfl, rfl⟩)
  refine .aggL (.cons (.nil _) (.cons (.vsR (.cons (.cons (.refl _) (.cons (.nil _) (.cons (.refl _) (.cons (.nil _) (.cons (.refl _) .nil))))) .nil)) .nil))
theorem onep_nil (H : List Blk) : ACalls Try.prog 12 [nilS] H (fun e H' => e = .ret (.agg k1.cells) ∧ H' = H) :=
  acalls_weak (args' := [Sm.sl []]) (.cons (.nil _) .nil) (onep_ok [] H)
theorem may_of {p : Pg} {e : Int} (hp : p.Ok2) (h : mayE p = e) (H : List Blk) : ACalls Try.prog 11 [.agg p.cells] H (fun x H' => x = .ret (I e) ∧ H' = H) := by
  have := may_ok p hp H
  rwa [h] at this
theorem ok2_k2 : k2.Ok2 := by
  refine ⟨⟨?_, ?_, ?_, ?_, ?_, ?_⟩, ⟨?_, ?_⟩, ?_⟩ <;> simp [k2]
theorem known_ok (H : List Blk) : ACalls Try.prog 13 [] H (fun e H' => e = .ret (Bo true) ∧ H' = H) := by
  refine acalls_tidy (acalls_of_vc (hn := fun _ => false) (od := fun _ => none) Try.func13 rfl (by kernel_rfl) ?_)
  have m1 := may_of (ok2_one 2 [] [] (by decide) rfl rfl) k1_may
  have m2 := fun H => acalls_weak (args' := [.agg k2.cells]) (args := [.agg [nilS, nilS]]) (.cons (.aggL (.cons (.nil _) (.cons (.nil _) .nil))) .nil) (may_of ok2_k2 k2_may H)
  have m3 := may_of (ok2_one 2 [] _ (by decide) rfl rfl) k3_may
  have m4 := may_of (ok2_one 2 [] _ (by decide) rfl rfl) k4_may
  have m5 := may_of (ok2_one 2 _ [] (by decide) rfl rfl) k5_may
  have m6 := may_of (ok2_one 2 _ [] (by decide) rfl rfl) k6_may
  have m7 := may_of (ok2_one 2 _ [] (by decide) rfl rfl) k7_may
  have cn := onep_nil
  simp only [k1, Pg.cells] at cn
  simp -dsimp
  refine acallsW_det (cn _) ?_
  simp -dsimp
  refine acallsW_det (m1 _) ?_
  simp -dsimp
  refine acallsW_det (m2 _) ?_
  simp -dsimp
  refine callDW_intro (cn _) ?_
  simp -dsimp
  refine callDW_intro (m3 _) ?_
  simp -dsimp
  refine acallsW_det (cn _) ?_
  simp -dsimp
  refine acallsW_det (m4 _) ?_
  simp -dsimp
  refine acallsW_of (acalls_weak (args' := [Sm.sl [setS nY (.mk 1 0 ByteArray.empty [])]]) (.cons (.vsR (.cons (by repeat first | exact Weak.refl _ | exact Weak.nil _ | exact WeakL.nil | exact WeakR.nil | apply Weak.aggL | apply Weak.vsR | apply WeakL.cons | apply WeakR.cons) .nil)) .nil) (onep_ok [setS nY (.mk 1 0 ByteArray.empty [])] _)) ?_
  rintro _ _ ⟨rfl, rfl⟩
  simp -dsimp
  refine acallsW_det (m5 _) ?_
  simp -dsimp
  refine acallsW_of (acalls_weak (args' := [Sm.sl [setS nR (.mk 1 0 ByteArray.empty [])]]) (.cons (.vsR (.cons (by repeat first | exact Weak.refl _ | exact Weak.nil _ | exact WeakL.nil | exact WeakR.nil | apply Weak.aggL | apply Weak.vsR | apply WeakL.cons | apply WeakR.cons) .nil)) .nil) (onep_ok [setS nR (.mk 1 0 ByteArray.empty [])] _)) ?_
  rintro _ _ ⟨rfl, rfl⟩
  simp -dsimp
  refine acallsW_det (m6 _) ?_
  simp -dsimp
  refine acallsW_of (acalls_weak (args' := [Sm.sl [setS nX (.mk 1 3 ByteArray.empty [])]]) (.cons (.vsR (.cons (by repeat first | exact Weak.refl _ | exact Weak.nil _ | exact WeakL.nil | exact WeakR.nil | apply Weak.aggL | apply Weak.vsR | apply WeakL.cons | apply WeakR.cons) .nil)) .nil) (onep_ok [setS nX (.mk 1 3 ByteArray.empty [])] _)) ?_
  rintro _ _ ⟨rfl, rfl⟩
  simp -dsimp
  refine acallsW_det (m7 _) ?_
  simp -dsimp
  exact tidy_same rfl ⟨rfl, rfl⟩
/-- A program of one function, in memory of the caller's own. -/
def ownP (h : Nat) : List Blk := [.box 32 [nilS, .hs (h + 2) 0 1 1], .row 41 4 ((oneVars 2).map Vr.cells), .row 44 5 [[St nF, nilS, .hs (h + 1) 0 2 2, nilS, nilS]]]
theorem onep_own (H : List Blk) : ACalls Try.prog 12 [nilS] H (fun e H' => e = .ret (.agg [nilS, .hs (H.length + 2) 0 1 1]) ∧ H' = H ++ ownP H.length) := by
  refine acalls_of_vc (hn := fun d => d == 5 || d == 8) (od := fun _ => none) Try.func12 rfl (by kernel_rfl) ?_
  simp -dsimp [ownP, oneVars]
theorem own_may {n e : Int} (hm : mayE (oneN n []) = e) (M : List Blk) (a b : Nat) (ha : M[a]? = some (.row 41 4 ((oneVars n).map Vr.cells))) (hb : M[b]? = some (.row 44 5 [[St nF, nilS, .hs a 0 2 2, nilS, nilS]])) (hab : a ≠ b) :
    ACalls Try.prog 11 [.agg [nilS, .hs b 0 1 1]] M (fun x H' => x = .ret (I e) ∧ H' = M) := by
  refine acalls_apart (args' := [.agg [nilS, .vs 5 [[St nF, nilS, Vr.sl (oneVars n), nilS, nilS]]]]) ?_ rfl ?_
  · refine .row a 4 41 _ ha (by simp [oneVars, AV.frzB]) ?_
    have hf := frzH_other (sz := 4) (es := (oneVars n).map Vr.cells) (Ne.symm hab) hb
    refine .row b 5 44 [[St nF, nilS, Vr.sl (oneVars n), nilS, nilS]] ?_ (by simp [AV.frzB]) ?_
    · rw [hf]; simp [Blk.frz, AV.frz, frzL, oneVars]
    · have e : frzL b 5 [[St nF, nilS, Vr.sl (oneVars n), nilS, nilS]] (frzL a 4 ((oneVars n).map Vr.cells) [.agg [nilS, .hs b 0 1 1]]) = [.agg [nilS, .vs 5 [[St nF, nilS, Vr.sl (oneVars n), nilS, nilS]]]] := by
        simp [AV.frz, frzL, Ne.symm hab]
      rw [e]
      exact .refl _ _
  · refine acalls_weak (args' := [.agg (oneN n []).cells]) (.cons (.aggL (.cons (.nil _) (.cons (.vsR (.cons (.cons (.refl _) (.cons (.nil _) (.cons (.refl _) (.cons (.nil _) (.cons (.nil _) .nil))))) .nil)) .nil))) .nil) ?_
    exact may_of (ok2_one n [] [] (by decide) rfl rfl) hm []
end Go.Proofs
namespace Go.Proofs
open Go.Mu
abbrev eS : AV := St ByteArray.empty
def opN : Nat → Int | 0 => 2 | _ + 1 => 4
def nmN : Nat → ByteArray | 0 => nX | _ + 1 => ByteArray.empty
def argN : Nat → AV | 0 => nilS | n + 1 => .vs 4 [[I (opN n), U 0, St (nmN n), argN n]]
abbrev rawN (n : Nat) : List AV := [I (opN n), U 0, St (nmN n), argN n]
theorem argN_weak : ∀ n, Weak (argN n) (Ex.sl (notE n).args)
  | 0 => .nil _
  | n + 1 => by
    rw [argN]
    have ih := argN_weak n
    have h : WeakL [I (opN n), U 0, St (nmN n), argN n] (notE n).cells := by
      cases n with
      | zero => exact .cons (.refl _) (.cons (.refl _) (.cons (.refl _) (.cons ih .nil)))
      | succ n => rw [Ex.cells_eq]; exact .cons (.refl _) (.cons (.refl _) (.cons (.refl _) (.cons ih .nil)))
    exact .vsR (.cons h .nil)
theorem rawN_weak (n : Nat) : WeakL (rawN n) (notE n).cells := by
  cases n with
  | zero => exact .cons (.refl _) (.cons (.refl _) (.cons (.refl _) (.cons (argN_weak 0) .nil)))
  | succ n => rw [Ex.cells_eq]; exact .cons (.refl _) (.cons (.refl _) (.cons (.refl _) (.cons (argN_weak (n + 1)) .nil)))
def rawI : Nat → AV
  | 0 => nilS
  | n + 1 => .vs 16 [[I 3, eS, nilS, I 1, U 0, eS, nilS, I 0, U 0, eS, nilS, nilS, U 0, U 0, rawI n, nilS]]
theorem rawI_weak : ∀ n, Weak (rawI n) (Sm.sl (ifE n))
  | 0 => .nil _
  | n + 1 => by
    rw [rawI]
    refine .vsR (.cons ?_ .nil)
    rw [Sm.cells_eq]
    exact .cons (.refl _) (.cons (.refl _) (.cons (.nil _) (.cons (.refl _) (.cons (.refl _) (.cons (.refl _) (.cons (.nil _) (.cons (.refl _) (.cons (.refl _) (.cons (.refl _) (.cons (.nil _) (.cons (.nil _) (.cons (.refl _) (.cons (.refl _) (.cons (rawI_weak n) (.cons (.nil _) .nil)))))))))))))))
theorem raw_set (n : Nat) : WeakL [I 1, St nX, nilS, I (opN n), U 0, St (nmN n), argN n, I 0, U 0, eS, nilS, nilS, U 0, U 0, nilS, nilS] (setS nX (notE n)).cells := by
  have h := rawN_weak n
  rw [Sm.cells_eq]
  rw [Ex.cells_eq] at h
  refine .cons (.refl _) (.cons (.refl _) (.cons (.nil _) (.cons (h.weak 0 _ _ rfl rfl) (.cons (h.weak 1 _ _ rfl rfl) (.cons (h.weak 2 _ _ rfl rfl) (.cons (h.weak 3 _ _ rfl rfl) (.cons (.refl _) (.cons (.refl _) (.cons (.refl _) (.cons (.nil _) (.cons (.nil _) (.cons (.refl _) (.cons (.refl _) (.cons (.nil _) (.cons (.nil _) .nil)))))))))))))))
@[simp] theorem argN_frz (n : Nat) : (argN n).frzB = true := by cases n <;> rfl
@[simp] theorem argN_one (n : Nat) : (argN n).one = true := by cases n <;> rfl
@[simp] theorem rawI_frz (n : Nat) : (rawI n).frzB = true := by cases n <;> rfl
@[simp] theorem rawI_one (n : Nat) : (rawI n).one = true := by cases n <;> rfl
@[simp] theorem rawI_cells (n : Nat) : avCells (rawI n) = some [rawI n] := by cases n <;> rfl
theorem one_weak {raw : List AV} {s : Sm} (h : WeakL raw s.cells) (H : List Blk) : ACalls Try.prog 12 [.vs 16 [raw]] H (fun e H' => e = .ret (.agg (oneP [s]).cells) ∧ H' = H) :=
  acalls_weak (args' := [Sm.sl [s]]) (.cons (.vsR (.cons h .nil)) .nil) (onep_ok [s] H)
theorem deep_ok : ACalls Try.prog 3 [] [] (fun e H' => e = .ret (Bo true) ∧ H' = []) := by
  refine acalls_tidy (acalls_of_vc (hn := fun _ => false) (od := fun _ => none) Try.func3 rfl (by kernel_rfl) ?_)
  simp -dsimp
  refine loop_rule (hn := fun _ => false) (od := fun _ => none) (fun (i : Nat) g H' => H' = [.box 26 (rawN i)] ∧ g 1 = .bp 0 0 ∧ g 2 = I i ∧ i ≤ 63) (fun i => 63 - i) (by kernel_rfl) 0 (by simp [opN, nmN, argN]) ?_
  rintro i g _ ⟨rfl, g1, g2, hi⟩
  simp -dsimp [g1, g2]
  refine condVW_introD (fun hlt => ?_) (fun hlt => ?_)
  · simp -dsimp [g1, g2]
    exact ⟨i + 1, by omega, ⟨rfl, rfl, rfl⟩, wrapS (by omega), by omega⟩
  obtain rfl : i = 63 := by omega
  have mn : ∀ n, decide (smsCount [setS nX (notE n)] ≤ 2^36) = true → ∀ e, mayE (oneP [setS nX (notE n)]) = e → ∀ H, ACalls Try.prog 11 [.agg (oneP [setS nX (notE n)]).cells] H (fun x H' => x = .ret (I e) ∧ H' = H) := fun n h e he H => may_of (ok2_one 2 _ [] h rfl rfl) he H
  simp only [Pg.cells] at mn
  simp -dsimp [g1, g2]
  refine acallsW_det (one_weak (raw_set 63) _) ?_
  simp -dsimp [g1, g2]
  refine acallsW_det (mn 63 (by kernel_rfl) _ d1_may _) ?_
  simp -dsimp [g1, g2]
  refine acallsW_det (one_weak (raw_set 64) _) ?_
  simp -dsimp [g1, g2]
  refine acallsW_det (mn 64 (by kernel_rfl) _ d2_may _) ?_
  simp -dsimp [g1, g2]
  refine loop_rule (hn := fun _ => false) (od := fun _ => none) (fun (i : Nat) g H' => H' = [.box 26 (rawN 63)] ∧ g 3 = I 0 ∧ g 4 = I 12 ∧ g 5 = rawI i ∧ g 6 = I i ∧ i ≤ 64) (fun i => 64 - i) (by kernel_rfl) 0 (by simp [rawI]) ?_
  clear g g1 g2 hi hlt
  rintro i g _ ⟨rfl, g3, g4, g5, g6, hi⟩
  simp -dsimp [g3, g4, g5, g6]
  refine condVW_introD (fun hlt => ?_) (fun hlt => ?_)
  · simp -dsimp [g3, g4, g5, g6]
    exact ⟨i + 1, by omega, rfl, wrapS (by omega), by omega⟩
  obtain rfl : i = 64 := by omega
  have mi : ∀ n, decide (smsCount (ifE n) ≤ 2^36) = true → ∀ e, mayE (oneP (ifE n)) = e → ∀ H, ACalls Try.prog 11 [.agg (oneP (ifE n)).cells] H (fun x H' => x = .ret (I e) ∧ H' = H) := fun n h e he H => may_of (ok2_one 2 _ [] h rfl rfl) he H
  simp only [Pg.cells] at mi
  simp -dsimp [g3, g4, g5, g6]
  refine acallsW_of (acalls_weak (args' := [Sm.sl (ifE 64)]) (.cons (rawI_weak 64) .nil) (onep_ok (ifE 64) _)) ?_
  rintro _ _ ⟨rfl, rfl⟩
  simp -dsimp [g3, g4, g5, g6]
  refine acallsW_det (mi 64 (by kernel_rfl) _ d3_may _) ?_
  simp -dsimp [g3, g4, g5, g6]
  refine acallsW_of (acalls_weak (args' := [Sm.sl (ifE 65)]) (.cons (rawI_weak 65) .nil) (onep_ok (ifE 65) _)) ?_
  rintro _ _ ⟨rfl, rfl⟩
  simp -dsimp [g3, g4, g5, g6]
  refine acallsW_det (mi 65 (by kernel_rfl) _ d4_may _) ?_
  simp -dsimp [g3, g4, g5, g6]
  refine acallsW_of (onep_own _) ?_
  rintro _ _ ⟨rfl, rfl⟩
  simp -dsimp [g3, g4, g5, g6, ownP, oneVars, astore]
  refine acallsW_det (own_may d5_may _ 2 3 (by simp [oneVars]) (by simp) (by decide)) ?_
  simp -dsimp [g3, g4, g5, g6, astore]
  refine acallsW_det (own_may d6_may _ 2 3 (by simp [oneVars]) (by simp) (by decide)) ?_
  simp -dsimp [g3, g4, g5, g6, astore]
  refine acallsW_det (known_ok _) ?_
  simp -dsimp
  exact tidy_same (H := []) rfl ⟨rfl, rfl⟩
end Go.Proofs
