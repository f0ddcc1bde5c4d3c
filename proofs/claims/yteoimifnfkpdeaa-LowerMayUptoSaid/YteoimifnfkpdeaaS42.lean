/- The law about which made code may be: the walk. -/
import Derived.Test.YteoimifnfkpdeaaFwRtoL3
set_option linter.unusedVariables false
set_option linter.unusedSimpArgs false
set_option maxHeartbeats 4000000
set_option maxRecDepth 100000
namespace Go.Proofs
open Go.Mu
def okR (x : Int) : Bool := decide (3 ≤ x) && decide (x ≤ 15) && x != 4
def wantF (pl : Nat) : Bool → List Int → List Int → Bool
  | b, _, [] => b
  | b, pre, x :: r => wantF pl (b && okR x && (decide (pl ≤ pre.length) || !decide (x ∈ pre))) (pre ++ [x]) r
theorem okR_odd (x : Int) : okR x = !oddR x := by
  rw [Bool.eq_iff_iff]; simp [okR, oddR]; omega
theorem wantF_false (pl : Nat) : ∀ (l pre : List Int), wantF pl false pre l = false
  | [], _ => rfl
  | x :: l, pre => by rw [wantF]; simp only [Bool.false_and]; exact wantF_false pl l _
theorem wantF_rets (pl : Nat) : ∀ (l pre : List Int) (b : Bool), pl ≤ pre.length → wantF pl b pre l = (b && !l.any oddR)
  | [], _, b, _ => by simp [wantF]
  | x :: l, pre, b, h => by
    rw [wantF, wantF_rets pl l _ _ (by simp; omega), okR_odd]
    simp [h, Bool.and_assoc]
theorem wantF_params (rets : List Int) : ∀ (l pre : List Int) (b : Bool) (pl : Nat), pl = pre.length + l.length → wantF pl b pre (l ++ rets) = (b && apartB pre l && !l.any oddR && !rets.any oddR)
  | [], pre, b, pl, h => by
    rw [List.nil_append, wantF_rets _ _ _ _ (by simp at h; omega)]; simp [apartB]
  | x :: l, pre, b, pl, h => by
    rw [List.cons_append, wantF, wantF_params rets l (pre ++ [x]) _ pl (by simp at h ⊢; omega), okR_odd, apartB]
    have : decide (pl ≤ pre.length) = false := by simp at h ⊢; omega
    rw [this, List.any_cons]
    generalize l.any oddR = w
    generalize rets.any oddR = v
    generalize oddR x = o
    generalize decide (x ∈ pre) = d
    generalize apartB _ l = q
    cases b <;> cases o <;> cases d <;> cases q <;> cases w <;> cases v <;> rfl
theorem want_may (a : Asm) : wantF a.params.length (mayA a.code && frameOk a.frame) [] (a.params ++ a.rets) = mayAsm a := by
  rw [wantF_params a.rets a.params [] _ _ (by simp)]
  simp only [mayAsm]
  generalize mayA a.code = x
  generalize frameOk a.frame = y
  generalize apartB [] a.params = z
  generalize a.params.any oddR = u
  generalize a.rets.any oddR = v
  cases x <;> cases y <;> cases z <;> cases u <;> cases v <;> rfl
theorem eqB4 (x y : Bool) : binE Try.prog .eql 4 (Bo x) (Bo y) = some (Bo (x == y)) := by cases x <;> cases y <;> kernel_rfl
theorem lowerMay_ok (a : Asm) (h1 : a.code.length ≤ 2^40) (h2 : a.params.length ≤ 2^40) (h3 : a.rets.length ≤ 2^40) (H : List Blk) : ACalls Try.prog 6 [.agg a.cells] H (fun e H' => e = .ret (Bo true) ∧ H' = H) := by
  refine acalls_tidy (acalls_spare 1 (acalls_of_vc (hn := fun d => d == 45 || d == 48) (od := fun i => if i = 4 then some [(0, []), (1, []), (3, []), (4, []), (2, [3, 4]), (5, []), (6, [])] else none) Try.func6 rfl (by kernel_rfl) ?_))
  have leaf : Hid (∀ (L : List Blk), Tidy H (fun e H' => e = AE.ret (Bo true) ∧ H' = H) (AE.ret (Bo true)) (H ++ L)) := ⟨fun L => tidy_same rfl ⟨rfl, rfl⟩⟩
  have kn := known20_ok
  have mc := fun H => mayCode_ok a.code h1 H
  simp -dsimp
  repeat' ((with_reducible first | refine And.intro ?_ ?_ | refine guardVW_introTD (fun _ => ?_) (fun _ => ?_) | refine guardVW_introFD (fun _ => ?_) (fun _ => ?_) | refine condVW_introD (fun _ => ?_) (fun _ => ?_) | refine guardVW_introTE (fun _ => ?_) (fun _ _ _ => ?_) | refine guardVW_introFE (fun _ => ?_) (fun _ _ _ => ?_) | refine condVW_introE (fun _ => ?_) (fun _ _ _ => ?_) | refine guardVW_introTNE (fun _ _ _ => ?_) (fun _ => ?_) | refine guardVW_introFNE (fun _ _ _ => ?_) (fun _ => ?_) | refine condVW_introNE (fun _ _ _ => ?_) (fun _ => ?_) | refine guardVW_introTB (fun _ => ?_) (fun _ => ?_) | refine guardVW_introFB (fun _ => ?_) (fun _ => ?_) | refine condVW_introB (fun _ => ?_) (fun _ => ?_) | refine guardVW_introT (fun _ => ?_) (fun _ => ?_) | refine guardVW_introF (fun _ => ?_) (fun _ => ?_) | refine condVW_intro (fun _ => ?_) (fun _ => ?_) | refine acallsW_det (kn _) ?_ | refine callDW_intro (kn _) ?_) <;> simp -dsimp [*])
  all_goals first | exact leaf.out _ | skip
  rename_i hc hp hr
  refine acallsW_det (mc _) ?_
  simp -dsimp
  obtain ⟨es, hes⟩ : ∃ es, es = (a.params ++ a.rets).map fun n => [I n] := ⟨_, rfl⟩
  have hesl : es.length = a.params.length + a.rets.length := by rw [hes]; simp
  have hes2 : (a.params.map fun n => [I n]) ++ (a.rets.map fun n => [I n]) = es := by rw [hes]; simp
  have start : ∀ b, b = (mayA a.code && frameOk a.frame) → wantF a.params.length b [] (a.params ++ a.rets) = mayAsm a := by rintro b rfl; exact want_may a
  have end_ := fun H => mayAsm_ok a h1 h2 h3 H
  simp only [Asm.cells] at end_
  replace start := Hid.mk start
  replace hes := Hid.mk hes
  replace hes2 := Hid.mk hes2
  repeat' ((with_reducible first | refine And.intro ?_ ?_ | refine guardVW_introTD (fun _ => ?_) (fun _ => ?_) | refine guardVW_introFD (fun _ => ?_) (fun _ => ?_) | refine condVW_introD (fun _ => ?_) (fun _ => ?_) | refine guardVW_introTE (fun _ => ?_) (fun _ _ _ => ?_) | refine guardVW_introFE (fun _ => ?_) (fun _ _ _ => ?_) | refine condVW_introE (fun _ => ?_) (fun _ _ _ => ?_) | refine guardVW_introTNE (fun _ _ _ => ?_) (fun _ => ?_) | refine guardVW_introFNE (fun _ _ _ => ?_) (fun _ => ?_) | refine condVW_introNE (fun _ _ _ => ?_) (fun _ => ?_) | refine guardVW_introTB (fun _ => ?_) (fun _ => ?_) | refine guardVW_introFB (fun _ => ?_) (fun _ => ?_) | refine condVW_introB (fun _ => ?_) (fun _ => ?_) | refine guardVW_introT (fun _ => ?_) (fun _ => ?_) | refine guardVW_introF (fun _ => ?_) (fun _ => ?_) | refine condVW_intro (fun _ => ?_) (fun _ => ?_)) <;> simp -dsimp [*])
  all_goals
    refine appendVW_nilown H.length (by simp) (by simp; omega) (by simp; omega) ?_
    simp -dsimp
    refine appendVW_own (by simp) (by simp; omega) (by simp; omega) ?_
    rw [hes2.out]
    simp -dsimp
    refine loop_rule (hn := fun _ => false) (od := fun _ => none) (fun (i : Nat) f H' => (∃ b, f 3 = Bo b ∧ wantF a.params.length b ((a.params ++ a.rets).take i) ((a.params ++ a.rets).drop i) = mayAsm a) ∧ H' = H ++ [ownB 46 1 es, Blk.box 59 [Amd.sl a.code, Int.sl a.params, Int.sl a.rets, I a.frame]] ∧
      f 1 = .bp (H.length + 1) 0 ∧ f 4 = ownS H.length es ∧ f 5 = I i ∧ i ≤ es.length) (fun i => es.length - i) (by kernel_rfl) 0 ⟨⟨_, rfl, start.out _ (by simp [frameOk, *])⟩, by simp⟩ ?_
    rintro i f H' ⟨⟨b, f3, hw⟩, rfl, f1, f4, f5, hi⟩
    have hl : ∀ X, lenV (H ++ ownB 46 1 es :: X) 1 (ownS H.length es) = some (es.length : Int) := fun X => lenV_ownS (t := 46) (sz := 1) (by simp)
    simp -dsimp [f1, f3, f4, f5, hl]
    refine condVW_introD (fun hlt => ?_) (fun hlt => ?_)
    · have hne : es ≠ [] := by intro h; rw [h] at hlt; simp at hlt
      have hix : i < (a.params ++ a.rets).length := by simp; omega
      rw [ownS, if_neg hne] at f4
      have hB : ownB 46 1 es = .row 46 1 es := by rw [ownB, if_neg hne]
      obtain ⟨l, hle⟩ : ∃ l, l = a.params ++ a.rets := ⟨_, rfl⟩
      have hll : l.length = es.length := by rw [hle, hesl]; simp
      rw [← hle] at hw hix
      have hge : ∀ (k : Nat) (hk : k < l.length), es[k]? = some [I l[k]] := by
        intro k hk
        subst hle
        rw [hes.out, List.getElem?_map, List.getElem?_eq_getElem hk]; rfl
      have hgi := hge i hix
      rw [drop_cons hix, wantF] at hw
      rw [hB]
      have hgi' : ∀ h, es[i]'h = [I l[i]] := fun h => by rw [← Option.some.injEq, ← List.getElem?_eq_getElem, hgi]
      obtain ⟨q, hq⟩ : ∃ q, q = (b && okR l[i] && (decide (a.params.length ≤ i) || !decide (l[i] ∈ l.take i))) := ⟨_, rfl⟩
      have htl : (l.take i).length = i := by simp; omega
      rw [htl, ← hq] at hw
      replace hw := Hid.mk hw
      replace hq := Hid.mk hq
      have next : Hid (∃ y, es.length - y < es.length - i ∧ wantF a.params.length q (l.take y) (l.drop y) = mayAsm a ∧ IntKind.i64.wrap ((i : Int) + 1) = (y : Int) ∧ y ≤ es.length) := ⟨⟨i + 1, by omega, by rw [List.take_succ_eq_append_getElem hix]; exact hw.out, wrapS (by omega), by omega⟩⟩
      have hg2 := fun (k : Nat) (hk : k < i) => hge k (by omega)
      replace hesl := Hid.mk hesl
      replace hll := Hid.mk hll
      replace hle := Hid.mk hle
      replace hge := Hid.mk hge
      cases b
      all_goals simp -dsimp [f1, f3, f4, f5, hgi', hlt]
      all_goals try repeat' ((with_reducible first | refine And.intro ?_ ?_ | refine guardVW_introTD (fun _ => ?_) (fun _ => ?_) | refine guardVW_introFD (fun _ => ?_) (fun _ => ?_) | refine condVW_introD (fun _ => ?_) (fun _ => ?_) | refine guardVW_introTE (fun _ => ?_) (fun _ _ _ => ?_) | refine guardVW_introFE (fun _ => ?_) (fun _ _ _ => ?_) | refine condVW_introE (fun _ => ?_) (fun _ _ _ => ?_) | refine guardVW_introTNE (fun _ _ _ => ?_) (fun _ => ?_) | refine guardVW_introFNE (fun _ _ _ => ?_) (fun _ => ?_) | refine condVW_introNE (fun _ _ _ => ?_) (fun _ => ?_) | refine guardVW_introTB (fun _ => ?_) (fun _ => ?_) | refine guardVW_introFB (fun _ => ?_) (fun _ => ?_) | refine condVW_introB (fun _ => ?_) (fun _ => ?_) | refine guardVW_introT (fun _ => ?_) (fun _ => ?_) | refine guardVW_introF (fun _ => ?_) (fun _ => ?_) | refine condVW_intro (fun _ => ?_) (fun _ => ?_)) <;> simp -dsimp [*])
      all_goals
        refine loop_rule (hn := fun _ => false) (od := fun _ => none) (fun (k : Nat) f H' => (∃ c, f 3 = Bo c ∧ (c && (decide (a.params.length ≤ i) || !decide (l[i] ∈ (l.take i).drop k))) = q) ∧ H' = H ++ [.row 46 1 es, Blk.box 59 [Amd.sl a.code, Int.sl a.params, Int.sl a.rets, I a.frame]] ∧
          f 1 = .bp (H.length + 1) 0 ∧ f 4 = .hs H.length 0 es.length es.length ∧ f 5 = I i ∧ f 6 = I k ∧ k ≤ i) (fun k => i - k) (by kernel_rfl) 0 ⟨⟨_, rfl, by rw [hq.out]; simp [okR, *]⟩, by simp [f1, f4, f5]⟩ ?_
        clear f3
        rintro k g H' ⟨⟨c, g3, hc⟩, rfl, g1, g4, g5, g6, hki⟩
        replace hc := Hid.mk hc
        simp -dsimp [g1, g3, g4, g5, g6]
        refine guardVW_introTD (fun hk => ?_) (fun hk => ?_)
        · have hgk := hg2 k hk
          have hgk' : ∀ h, es[k]'h = [I (l[k]'(by omega))] := fun h => by rw [← Option.some.injEq, ← List.getElem?_eq_getElem, hgk]
          have hkl : k < es.length := by omega
          have hkt : k < (l.take i).length := by omega
          simp -dsimp [g1, g3, g4, g5, g6, hk]
          refine condVW_introD (fun hip => ?_) (fun hip => ?_)
          · have hd : (l.take i).drop k = l[k]'(by omega) :: (l.take i).drop (k + 1) := by rw [drop_cons hkt, List.getElem_take]
            have hpl : decide (a.params.length ≤ i) = false := by simp; omega
            have hc2 := hc.out
            rw [hd, hpl] at hc2
            cases c
            · simp -dsimp [g1, g3, g4, g5, g6]
              simp at hc2
              exact ⟨k + 1, by omega, hc2, wrapS (by omega), by omega⟩
            · simp -dsimp [g1, g3, g4, g5, g6, hgi', hgk', hlt, hkl]
              refine ⟨k + 1, by omega, ?_, wrapS (by omega), by omega⟩
              rw [hpl, ← hc2]
              by_cases h : l[i] = l[k]
              · simp [h]
              · have h' : (l[k] != l[i]) = true := by simp; exact fun e => h e.symm
                have h2 : ¬ l[k] = l[i] := fun e => h e.symm
                simp [h, h', h2]
          · have hqc : q = c := by rw [← hc.out, show decide (a.params.length ≤ i) = true by simp; omega]; simp
            simp -dsimp [g1, g3, g4, g5, g6]
            rw [← hqc]
            obtain ⟨y, n1, n2, n3, n4⟩ := next.out
            rw [hle.out] at n2
            refine ⟨y, n1, ?_, by rw [ownS, if_neg hne], n3, n4⟩
            revert n2; cases q <;> simp
        · have hqc : q = c := by rw [← hc.out, List.drop_of_length_le (by omega)]; simp
          simp -dsimp [g1, g3, g4, g5, g6, hk]
          rw [← hqc]
          obtain ⟨y, n1, n2, n3, n4⟩ := next.out
          rw [hle.out] at n2
          refine ⟨y, n1, ?_, by rw [ownS, if_neg hne], n3, n4⟩
          revert n2; cases q <;> simp
    · have hb : b = mayAsm a := by
        rw [List.drop_of_length_le (by simp; omega), wantF] at hw; exact hw
      simp -dsimp [f1, f3, f4, f5]
      refine acallsW_det (end_ _) ?_
      simp -dsimp [f1, f3, f4, f5, eqB4, hb]
      refine acallsW_det (kn _) ?_
      simp -dsimp
      exact leaf.out _
end Go.Proofs
