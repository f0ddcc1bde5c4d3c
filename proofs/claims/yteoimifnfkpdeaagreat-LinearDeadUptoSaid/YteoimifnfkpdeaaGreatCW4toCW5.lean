/- May linear code be, by the document. -/
import Derived.Test.YteoimifnfkpdeaaGreatCW1toCW3
set_option linter.unusedVariables false
set_option linter.unusedSimpArgs false
set_option maxHeartbeats 4000000
set_option maxRecDepth 100000
namespace Go.Proofs
open Go.Mu
theorem whr_here {a : Int} : ∀ {c : List Line} {i : Nat} {x : Line}, c[i]? = some x → isLab a x = true → whr c a ≤ i
  | [], i, x, h, _ => by simp at h
  | y :: c, 0, x, h, hl => by
    simp only [List.getElem?_cons_zero, Option.some.injEq] at h
    subst h
    rw [whr_cons, if_pos hl]; exact Nat.le_refl _
  | y :: c, i + 1, x, h, hl => by
    rw [List.getElem?_cons_succ] at h
    have := whr_here h hl
    rw [whr_cons]
    split <;> omega
theorem whr_not {a : Int} : ∀ {c : List Line} {i : Nat} {x : Line}, c[i]? = some x → isLab a x = false → whr c a ≠ i
  | [], i, x, h, _ => by simp at h
  | y :: c, 0, x, h, hl => by
    simp only [List.getElem?_cons_zero, Option.some.injEq] at h
    subst h
    rw [whr_cons, if_neg (by rw [hl]; decide)]; omega
  | y :: c, i + 1, x, h, hl => by
    rw [List.getElem?_cons_succ] at h
    have := whr_not h hl
    rw [whr_cons]
    split <;> omega
theorem whr_le (c : List Line) (a : Int) : whr c a ≤ c.length := by unfold whr; exact List.findIdx_le_length
theorem rwhere_ok (l : Linear) (a : Int) (hc : l.code.length ≤ 2^40) (H : List Blk) : ACalls Tryz.prog 37 [.agg l.cells, I a] H (fun e H' => e = .ret (I (whrI l.code a)) ∧ H' = H) := by
  refine acalls_tidy (acalls_of_vc (hn := fun _ => false) (od := fun _ => none) Tryz.func37 rfl (by kernel_rfl) ?_)
  obtain ⟨c, hcc⟩ : ∃ c, c = l.code := ⟨_, rfl⟩
  have fin : ∀ n L, n = whrI l.code a → Tidy H (fun e H' => e = AE.ret (I (whrI l.code a)) ∧ H' = H) (.ret (I n)) (H ++ L) := fun n L h => by rw [h]; exact tidy_same rfl ⟨rfl, rfl⟩
  simp -dsimp
  refine loop_rule (hn := fun _ => false) (od := fun _ => none) (fun (i : Nat) f H' => (∃ L, H' = H ++ .box 25 [I l.vars, Int.sl l.params, Int.sl l.rets, I l.frame, Line.sl l.code] :: L) ∧ f 1 = I a ∧ f 2 = .bp H.length 0 ∧ f 5 = I i ∧ i ≤ l.code.length ∧ i ≤ whr l.code a) (fun i => l.code.length - i) (by kernel_rfl) 0 (by refine ⟨⟨[], rfl⟩, ?_⟩; simp) ?_
  rintro i f _ ⟨⟨L, rfl⟩, h1, h2, h5, hi, hw⟩
  simp -dsimp [h1, h2, h5]
  refine condVW_introD (fun hlt => ?_) (fun hlt => ?_)
  · have g := List.getElem?_eq_getElem hlt
    have q1 := whr_here (a := a) g
    have q2 := whr_not (a := a) g
    obtain ⟨x, hx⟩ : ∃ x, x = l.code[i] := ⟨_, rfl⟩
    rw [← hx] at g q1 q2
    clear hx
    replace fin := Hid.mk fin
    replace hw := Hid.mk hw
    replace hi := Hid.mk hi
    simp -dsimp [h1, h2, h5, g]
    by_cases hk : x.kind = 2
    · have hkb : (x.kind == 2) = true := by simpa using hk
      by_cases hl : x.label = a
      · have hlb : (x.label == a) = true := by simpa using hl
        simp -dsimp [h1, h2, h5, g, hkb, hlb]
        refine fin.out _ _ ?_
        have e := q1 (isLab_iff.2 ⟨hk, hl⟩)
        have hw := hw.out
        unfold whrI
        rw [if_pos (by omega)]; omega
      · have hlb : (x.label == a) = false := by simpa using hl
        simp -dsimp [h1, h2, h5, g, hkb, hlb]
        have e := q2 (by unfold isLab; rw [hlb, Bool.and_false])
        have hw := hw.out
        have hi := hi.out
        exact ⟨i + 1, by omega, wrapS (by omega), by omega, by omega⟩
    · have hkb : (x.kind == 2) = false := by simpa using hk
      simp -dsimp [h1, h2, h5, g, hkb]
      have e := q2 (by unfold isLab; rw [hkb, Bool.false_and])
      have hw := hw.out
      have hi := hi.out
      exact ⟨i + 1, by omega, wrapS (by omega), by omega, by omega⟩
  · simp -dsimp [h1, h2, h5]
    refine fin _ _ ?_
    have := whr_le l.code a
    unfold whrI
    rw [if_neg (by omega)]
end Go.Proofs
namespace Go.Proofs
open Go.Mu
theorem range_all_succ {f : Nat → Bool} {i : Nat} (h : (List.range i).all f = true) (hf : f i = true) : (List.range (i + 1)).all f = true := by
  rw [List.range_succ, List.all_append, h]; simp [hf]
theorem range_all_not {f : Nat → Bool} {i n : Nat} (hi : i < n) (hf : f i = false) : (List.range n).all f = false := by
  rw [List.all_eq_false]
  exact ⟨i, List.mem_range.2 hi, by rw [hf]; decide⟩
def LinesTo (l : Linear) (i : Nat) : Prop := (List.range i).all (refLine l) = true
theorem rmay16_ok (l : Linear) (hp : l.params.length ≤ 2^40) (hr : l.rets.length ≤ 2^40) (hc : l.code.length ≤ 2^40) (H : List Blk) : ACalls Tryz.prog 13 [.agg l.cells] H (fun e H' => e = .ret (Bo l.ok) ∧ H' = H) := by
  refine acalls_tidy (acalls_of_vc (hn := fun _ => false) (od := fun _ => none) Tryz.func13 rfl (by kernel_rfl) ?_)
  have hok := ok_lines l
  have fin : ∀ b L, b = l.ok → Tidy H (fun e H' => e = AE.ret (Bo l.ok) ∧ H' = H) (.ret (Bo b)) (H ++ L) := fun b L h => by rw [h]; exact tidy_same rfl ⟨rfl, rfl⟩
  have ch := fun H => rhead_ok l.vars l.params l.rets l.frame hp hr H
  have cw := fun a H => rwhere_ok l a hc H
  simp only [Linear.cells] at cw
  simp -dsimp
  refine guardVW_introFD (fun hb => ?_) (fun hb => ?_)
  · simp -dsimp [hb]
    refine fin _ _ ?_
    rw [hok]
    simp; omega
  · simp -dsimp [hb]
    refine acallsW_det (ch _) ?_
    cases hh : headOk l.vars l.params l.rets l.frame
    · simp -dsimp [hb]
      refine fin _ _ ?_
      rw [hok, hh]; simp
    simp -dsimp [hb]
    refine loop_rule (hn := fun _ => false) (od := fun _ => none) (fun (i : Nat) f H' => (∃ L, H' = H ++ .box 25 [I l.vars, Int.sl l.params, Int.sl l.rets, I l.frame, Line.sl l.code] :: L) ∧ f 1 = .bp H.length 0 ∧ f 3 = I i ∧ i ≤ l.code.length ∧ LinesTo l i) (fun i => l.code.length - i) (by kernel_rfl) 0 (by refine ⟨⟨[], rfl⟩, ?_⟩; simp [LinesTo]) ?_
    rintro i f _ ⟨⟨L, rfl⟩, h1, h3, hi, hall⟩
    simp -dsimp [h1, h3]
    refine condVW_introD (fun hlt => ?_) (fun hlt => ?_)
    · have g := List.getElem?_eq_getElem hlt
      have fail : refLine l i = false → ∀ L, Tidy H (fun e H' => e = AE.ret (Bo l.ok) ∧ H' = H) (.ret (Bo false)) (H ++ L) := fun h L => fin _ _ (by rw [hok, range_all_not hlt h, Bool.and_false])
      have next : refLine l i = true → LinesTo l (i + 1) := range_all_succ hall
      obtain ⟨x, hx⟩ : ∃ x, x = l.code[i] := ⟨_, rfl⟩
      rw [← hx] at g
      clear hx
      have hR : refLine l i = (lineOk l.vars x && (!decide (x.kind = 2) || decide (whrI l.code x.label = i)) && (!decide (x.kind = 3 ∨ x.kind = 4) || decide (0 ≤ whrI l.code x.label))) := by unfold refLine; rw [g]
      rw [hR] at fail next
      replace fail := Hid.mk fail
      replace next := Hid.mk next
      replace hok := Hid.mk hok
      replace fin := Hid.mk fin
      replace hall := Hid.mk hall
      replace hR := Hid.mk hR
      replace hi := Hid.mk hi
      have ci := fun H => rins_ok x.ins l.vars H
      simp only [Ins.cells] at ci
      obtain ⟨wh, hwh⟩ : ∃ w, w = whrI l.code x.label := ⟨_, rfl⟩
      have cw := cw x.label
      rw [← hwh] at cw fail next
      replace hwh := Hid.mk hwh
      simp -dsimp [h1, h3, g, zero_ins]
      repeat' ((with_reducible first | refine And.intro ?_ ?_ | refine guardVW_introTD (fun _ => ?_) (fun _ => ?_) | refine guardVW_introFD (fun _ => ?_) (fun _ => ?_) | refine condVW_introD (fun _ => ?_) (fun _ => ?_) | refine guardVW_introTE (fun _ => ?_) (fun _ _ _ => ?_) | refine guardVW_introFE (fun _ => ?_) (fun _ _ _ => ?_) | refine condVW_introE (fun _ => ?_) (fun _ _ _ => ?_) | refine guardVW_introTNE (fun _ _ _ => ?_) (fun _ => ?_) | refine guardVW_introFNE (fun _ _ _ => ?_) (fun _ => ?_) | refine condVW_introNE (fun _ _ _ => ?_) (fun _ => ?_) | refine guardVW_introTB (fun _ => ?_) (fun _ => ?_) | refine guardVW_introFB (fun _ => ?_) (fun _ => ?_) | refine condVW_introB (fun _ => ?_) (fun _ => ?_) | refine guardVW_introT (fun _ => ?_) (fun _ => ?_) | refine guardVW_introF (fun _ => ?_) (fun _ => ?_) | refine condVW_intro (fun _ => ?_) (fun _ => ?_) | refine acallsW_det (ci _) ?_ | refine callDW_intro (ci _) ?_ | refine acallsW_det (cw _) ?_ | refine callDW_intro (cw _) ?_) <;> simp -dsimp [*, zero_ins])
      all_goals first
        | refine fail.out ?_ _
        | refine ⟨i + 1, by omega, wrapS (by omega), by have := hi.out; omega, next.out ?_⟩
        | refine ⟨i + 1, by omega, wrapS (by omega), by omega, next.out ?_⟩
      all_goals clear fail next hok fin hall hR ci cw ch hwh h1 h3 g hi
      all_goals first
        | (simp_all [lineOk, isVr]; done)
        | (simp_all [lineOk, isVr]; omega)
        | grind [lineOk, isVr]
    · simp -dsimp [h1, h3]
      refine fin _ _ ?_
      have : i = l.code.length := by omega
      subst this
      unfold LinesTo at hall
      rw [hok, hall, hh]
      simp; omega
end Go.Proofs
