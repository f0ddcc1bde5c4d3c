/- Which flat code may be, by the program (2). -/
import Derived.Test.YteoimifnfkpdeaaS5
set_option linter.unusedVariables false
set_option linter.unusedSimpArgs false
set_option maxHeartbeats 4000000
set_option maxRecDepth 100000
namespace Go.Proofs
open Go.Mu
theorem may1_ok (ka kp ta tp : Nat) (vars nodes x : Int) (H : List Blk) (hp : H[kp]? = some (.box tp [.bp ka 0])) (ha : H[ka]? = some (.box ta [I vars, I nodes])) : ACalls Try.prog 69 [I x, .bp kp 0] H (fun e H' => e = .ret (Bo (!isV x vars)) ∧ H' = H) := by
  refine acalls_of_vc (hn := fun _ => false) (od := fun _ => none) Try.func69 rfl (by kernel_rfl) ?_
  simp -dsimp [hp]
  repeat' ((with_reducible first | refine And.intro ?_ ?_ | refine guardVW_introTD (fun _ => ?_) (fun _ => ?_) | refine guardVW_introFD (fun _ => ?_) (fun _ => ?_) | refine condVW_introD (fun _ => ?_) (fun _ => ?_) | refine guardVW_introTE (fun _ => ?_) (fun _ _ _ => ?_) | refine guardVW_introFE (fun _ => ?_) (fun _ _ _ => ?_) | refine condVW_introE (fun _ => ?_) (fun _ _ _ => ?_) | refine guardVW_introTNE (fun _ _ _ => ?_) (fun _ => ?_) | refine guardVW_introFNE (fun _ _ _ => ?_) (fun _ => ?_) | refine condVW_introNE (fun _ _ _ => ?_) (fun _ => ?_) | refine guardVW_introTB (fun _ => ?_) (fun _ => ?_) | refine guardVW_introFB (fun _ => ?_) (fun _ => ?_) | refine condVW_introB (fun _ => ?_) (fun _ => ?_) | refine guardVW_introT (fun _ => ?_) (fun _ => ?_) | refine guardVW_introF (fun _ => ?_) (fun _ => ?_) | refine condVW_intro (fun _ => ?_) (fun _ => ?_) | refine acallsW_det (asking_is _ _ _ _ _ _ ha) ?_ | refine callDW_intro (asking_is _ _ _ _ _ _ ha) ?_) <;> simp -dsimp [*])
theorem may_ok (f : Flat) (hp : f.params.length ≤ 2^40) (hr : f.rets.length ≤ 2^40) (hc : nodesCount f.code ≤ 2^40) (H : List Blk) : ACalls Try.prog 35 [.agg f.cells] H (fun e H' => e = .ret (Bo f.ok) ∧ H' = H) := by
  refine acalls_tidy (acalls_of_vc (hn := fun d => d == 70) (od := fun _ => none) Try.func35 rfl (by kernel_rfl) ?_)
  have leaf : ∀ (L : List Blk) (b : Bool), b = f.ok → Tidy H (fun e H' => e = AE.ret (Bo f.ok) ∧ H' = H) (AE.ret (AV.v (Value.bool b))) (H ++ L) := fun L b hb => tidy_same rfl ⟨by rw [hb], rfl⟩
  replace leaf := Hid.mk leaf
  simp -dsimp
  repeat' ((with_reducible first | refine And.intro ?_ ?_ | refine guardVW_introTD (fun _ => ?_) (fun _ => ?_) | refine guardVW_introFD (fun _ => ?_) (fun _ => ?_) | refine condVW_introD (fun _ => ?_) (fun _ => ?_) | refine guardVW_introTE (fun _ => ?_) (fun _ _ _ => ?_) | refine guardVW_introFE (fun _ => ?_) (fun _ _ _ => ?_) | refine condVW_introE (fun _ => ?_) (fun _ _ _ => ?_) | refine guardVW_introTNE (fun _ _ _ => ?_) (fun _ => ?_) | refine guardVW_introFNE (fun _ _ _ => ?_) (fun _ => ?_) | refine condVW_introNE (fun _ _ _ => ?_) (fun _ => ?_) | refine guardVW_introTB (fun _ => ?_) (fun _ => ?_) | refine guardVW_introFB (fun _ => ?_) (fun _ => ?_) | refine condVW_introB (fun _ => ?_) (fun _ => ?_) | refine guardVW_introT (fun _ => ?_) (fun _ => ?_) | refine guardVW_introF (fun _ => ?_) (fun _ => ?_) | refine condVW_intro (fun _ => ?_) (fun _ => ?_)) <;> simp -dsimp [*])
  case refine_2.refine_2.refine_2.refine_2.refine_2 h1 h2 h3 h4 h5 =>
    have hbase : f.ok = (decide (f.rets.length ≤ 16384) && paramsOk f.vars [] f.params && f.rets.all (isV · f.vars) && decide (nodesCount f.code ≤ 16384) && nodesOk f.vars 1 f.code) := by
      have ht := Int.tmod_eq_emod_of_nonneg (a := f.frame) (b := 16) (by omega)
      rw [ht] at h5
      have e1 : decide (0 ≤ f.vars) = true := by simp; omega
      have e2 : decide (f.vars ≤ 16384) = true := by simp; omega
      have e3 : decide (0 ≤ f.frame) = true := by simp; omega
      have e4 : decide (f.frame ≤ 8192) = true := by simp; omega
      have e5 : decide (f.frame % 16 = 0) = true := by simpa using h5
      simp only [Flat.ok, headOk, e1, e2, e3, e4, e5, Bool.true_and]
    replace hbase := Hid.mk hbase
    refine loop_rule (hn := fun d => d == 70) (od := fun _ => none) (fun (i : Nat) g H' => H' = H ++ [.box 25 f.cells, .box 141 [I f.vars, I 0], .box 139 [.bp (H.length + 1) 0]] ∧ g 1 = .bp H.length 0 ∧ g 3 = .bp (H.length + 2) 0 ∧ g 35 = Int.sl f.params ∧ g 36 = I f.params.length ∧ g 37 = I i ∧ i ≤ f.params.length ∧ paramsOk f.vars (f.params.take i) (f.params.drop i) = paramsOk f.vars [] f.params) (fun i => f.params.length - i) (by kernel_rfl) 0 (by simp) ?_
    rintro i g H' ⟨rfl, g1, g3, g35, g36, g37, hi, hok⟩
    simp -dsimp [g1, g3, g35, g36, g37]
    have hm : ∀ L, (H ++ Blk.box 25 f.cells :: Blk.box 141 [I f.vars, I 0] :: L)[H.length + 1]? = some (.box 141 [I f.vars, I 0]) := by intro L; simp
    simp only [Flat.cells] at hm
    refine condVW_introD (fun hlt => ?_) (fun hlt => ?_)
    · have hd := paramsOk_drop (vars := f.vars) hlt
      rw [hok] at hd
      replace hd := Hid.mk hd
      replace hok := Hid.mk hok
      have hct := contains_ok (f.params.take i) f.params[i]
      simp only [Int.sl, List.map_take] at hct
      have hctl : (f.params.take i).length ≤ 2^40 := by simp; omega
      simp -dsimp [g1, g3, g35, g36, g37, List.getElem?_eq_getElem, hlt]
      repeat' ((with_reducible first | refine And.intro ?_ ?_ | refine guardVW_introTD (fun _ => ?_) (fun _ => ?_) | refine guardVW_introFD (fun _ => ?_) (fun _ => ?_) | refine condVW_introD (fun _ => ?_) (fun _ => ?_) | refine guardVW_introTE (fun _ => ?_) (fun _ _ _ => ?_) | refine guardVW_introFE (fun _ => ?_) (fun _ _ _ => ?_) | refine condVW_introE (fun _ => ?_) (fun _ _ _ => ?_) | refine guardVW_introTNE (fun _ _ _ => ?_) (fun _ => ?_) | refine guardVW_introFNE (fun _ _ _ => ?_) (fun _ => ?_) | refine condVW_introNE (fun _ _ _ => ?_) (fun _ => ?_) | refine guardVW_introTB (fun _ => ?_) (fun _ => ?_) | refine guardVW_introFB (fun _ => ?_) (fun _ => ?_) | refine condVW_introB (fun _ => ?_) (fun _ => ?_) | refine guardVW_introT (fun _ => ?_) (fun _ => ?_) | refine guardVW_introF (fun _ => ?_) (fun _ => ?_) | refine condVW_intro (fun _ => ?_) (fun _ => ?_) | refine acallsW_det (asking_is _ _ _ _ _ _ (hm _)) ?_ | refine callDW_intro (asking_is _ _ _ _ _ _ (hm _)) ?_ | refine acallsW_det (hct _ hctl) ?_ | refine callDW_intro (hct _ hctl) ?_) <;> simp -dsimp [*])
      · refine leaf.out _ _ ?_
        rw [hbase.out, hd.out]; simp [*]
      · refine leaf.out _ _ ?_
        rw [hbase.out, hd.out]; simp [*]
      · refine ⟨i + 1, by omega, wrapS (by omega), by omega, ?_⟩
        have := hd.out
        simp [*] at this
        simp [this]
    · rw [drop_end hlt] at hok
      have hpok : paramsOk f.vars [] f.params = true := by rw [← hok]; rfl
      rw [hpok, Bool.and_true] at hbase
      have hcf := containsFunc_ok (g := 69) (cap := [.bp (H.length + 2) 0]) (fun v => !isV v f.vars) f.rets (H ++ [.box 25 f.cells, .box 141 [I f.vars, I 0], .box 139 [.bp (H.length + 1) 0]]) hr (by kernel_rfl) (fun x _ => may1_ok (H.length + 1) (H.length + 2) 141 139 f.vars 0 x _ (by simp) (by simp))
      have hal := alist_ok f.vars _ f.code 1 (Nat.le_refl _) hc (by omega) 0 (by omega) (H ++ [.box 25 f.cells, .box 141 [I f.vars, I 0], .box 139 [.bp (H.length + 1) 0]]) (H.length + 1) 141 (by simp)
      simp only [Flat.cells] at hcf hal
      simp -dsimp [g1, g3, g35, g36, g37]
      refine acallsW_det hcf ?_
      have hany : (f.rets.any fun v => !isV v f.vars) = !f.rets.all (isV · f.vars) := by rw [List.all_eq_not_any_not]; simp
      replace hany := Hid.mk hany
      simp -dsimp [g1, g3, g35, g36, g37, hany.out]
      repeat' ((with_reducible first | refine And.intro ?_ ?_ | refine guardVW_introTD (fun _ => ?_) (fun _ => ?_) | refine guardVW_introFD (fun _ => ?_) (fun _ => ?_) | refine condVW_introD (fun _ => ?_) (fun _ => ?_) | refine guardVW_introTE (fun _ => ?_) (fun _ _ _ => ?_) | refine guardVW_introFE (fun _ => ?_) (fun _ _ _ => ?_) | refine condVW_introE (fun _ => ?_) (fun _ _ _ => ?_) | refine guardVW_introTNE (fun _ _ _ => ?_) (fun _ => ?_) | refine guardVW_introFNE (fun _ _ _ => ?_) (fun _ => ?_) | refine condVW_introNE (fun _ _ _ => ?_) (fun _ => ?_) | refine guardVW_introTB (fun _ => ?_) (fun _ => ?_) | refine guardVW_introFB (fun _ => ?_) (fun _ => ?_) | refine condVW_introB (fun _ => ?_) (fun _ => ?_) | refine guardVW_introT (fun _ => ?_) (fun _ => ?_) | refine guardVW_introF (fun _ => ?_) (fun _ => ?_) | refine condVW_intro (fun _ => ?_) (fun _ => ?_) | (refine acallsW_of hal (fun e H' hq => ?_); obtain ⟨b1, n1, rfl, hb1, hn1, rfl, he1⟩ := AListR.out hq; replace hb1 := Hid.mk hb1; replace he1 := Hid.mk he1)) <;> simp -dsimp [*])
      all_goals refine leaf.out _ _ ?_
      all_goals clear hcf hal hm
      all_goals rw [hbase.out]
      · have hcap : (f.code.isEmpty || decide (0 + nodesCount f.code ≤ 16384)) = decide (nodesCount f.code ≤ 16384) := by
          have h0 := count_empty f.code
          rw [isEmpty_len, Bool.eq_iff_iff, Nat.zero_add]; simp only [Bool.or_eq_true, decide_eq_true_eq]; omega
        rw [hb1.out, hcap]
        have : f.rets.length ≤ 16384 := by omega
        simp [*, Bool.and_comm]
      · simp [*]; omega
      · simp [*]
  case refine_2.refine_2.refine_2.refine_2.refine_1 h5 _ _ =>
    refine leaf.out _ _ ?_
    have ht := Int.tmod_eq_emod_of_nonneg (a := f.frame) (b := 16) (by omega)
    rw [ht] at h5
    simp [Flat.ok, headOk, h5]
  all_goals
    refine leaf.out _ _ ?_
    simp [Flat.ok, headOk]
    omega
end Go.Proofs
