/- Linear code is run. -/
import Derived.Test.YtganjkhdlehhdaaGreatFwJmptoAMG
import Derived.Test.YtganjkhdlehhdaaGreatAMPtoAMR
import Derived.Test.YtganjkhdlehhdaaGreatAMO
set_option linter.unusedVariables false
set_option linter.unusedSimpArgs false
set_option maxHeartbeats 4000000
set_option maxRecDepth 100000
namespace Go.Proofs
open Go.Mu
end Go.Proofs
namespace Go.Proofs
open Go.Mu
theorem sseen_ok (a : List Se) (ha : a.length ≤ 2^40) (H : List Blk) : ACalls Tryz.prog 15 [Se.sl a, Se.sl a] H (fun e H' => e = .ret (Bo true) ∧ H' = H) := by
  refine acalls_tidy (acalls_of_vc (hn := fun _ => false) (od := fun _ => none) Tryz.func15 rfl (by kernel_rfl) ?_)
  simp -dsimp
  refine loop_rule (hn := fun _ => false) (od := fun _ => none) (fun (i : Nat) f H' => H = H' ∧ f 0 = Se.sl a ∧ f 1 = Se.sl a ∧ f 5 = I i ∧ i ≤ a.length) (fun i => a.length - i) (by kernel_rfl) 0 (by simp) ?_
  rintro i f _ ⟨rfl, h0, h1', h5, hi⟩
  simp -dsimp [h0, h1', h5]
  refine condVW_introD (fun hlt => ?_) (fun hlt => ?_)
  · have e1 := List.getElem?_eq_getElem hlt
    obtain ⟨x, hx⟩ : ∃ x, x = a[i] := ⟨_, rfl⟩
    rw [← hx] at e1
    clear hx
    obtain ⟨xj, xt, xa⟩ := x
    simp -dsimp [h0, h1', h5, e1]
    exact ⟨i + 1, by omega, wrapS (by omega), by omega⟩
  · simp -dsimp
    exact tidy_now rfl ⟨rfl, rfl⟩
end Go.Proofs
namespace Go.Proofs
open Go.Mu
structure stOk (s : Mst) : Prop where
  R : s.R.length = 16
  W : ∀ x ∈ s.R, Wd x
  seen : s.seen = []
  b : s.b = zeroB
  at_ : -9223372036854775808 ≤ s.at_ ∧ s.at_ ≤ 9223372036854775807
  steps : -9223372036854775808 ≤ s.steps ∧ s.steps ≤ 9223372036854775807
theorem st_eq_cells (x0 x1 x2 x3 x4 x5 x6 x7 x8 x9 x10 x11 x12 x13 x14 x15 : Int) (c0 c1 c2 c3 c4 : Bool) (a n : Int) : binE Tryz.prog .eql 28 (.agg [U x0, U x1, U x2, U x3, U x4, U x5, U x6, U x7, U x8, U x9, U x10, U x11, U x12, U x13, U x14, U x15, Bo c0, Bo c1, Bo c2, Bo c3, Bo c4, I a, I n]) (.agg [U x0, U x1, U x2, U x3, U x4, U x5, U x6, U x7, U x8, U x9, U x10, U x11, U x12, U x13, U x14, U x15, Bo c0, Bo c1, Bo c2, Bo c3, Bo c4, I a, I n]) = some (.v (.bool ((((x0 == x0) && ((x1 == x1) && ((x2 == x2) && ((x3 == x3) && ((x4 == x4) && ((x5 == x5) && ((x6 == x6) && ((x7 == x7) && ((x8 == x8) && ((x9 == x9) && ((x10 == x10) && ((x11 == x11) && ((x12 == x12) && ((x13 == x13) && ((x14 == x14) && ((x15 == x15) && true)))))))))))))))) && (((c0 == c0) && ((c1 == c1) && ((c2 == c2) && ((c3 == c3) && ((c4 == c4) && true))))) && ((a == a) && ((n == n) && true))))))) := by kernel_rfl
theorem st_eq (s : Mst) (h : s.R.length = 16) : binE Tryz.prog .eql 28 (.agg (stC s)) (.agg (stC s)) = some (Bo true) := by
  obtain ⟨R, f, a, n, se, b⟩ := s
  simp only at h
  match R, h with
  | [x0, x1, x2, x3, x4, x5, x6, x7, x8, x9, x10, x11, x12, x13, x14, x15], _ =>
    refine (st_eq_cells x0 x1 x2 x3 x4 x5 x6 x7 x8 x9 x10 x11 x12 x13 x14 x15 f.c f.z f.s f.o f.p a n).trans ?_
    simp
theorem stC_one (s : Mst) : (stC s).all AV.one = true := List.all_eq_true.2 fun c hc => by
  unfold stC at hc
  simp only [List.mem_append, List.mem_map, List.mem_cons, List.not_mem_nil, or_false] at hc
  rcases hc with ⟨x, _, rfl⟩ | rfl | rfl | rfl | rfl | rfl | rfl | rfl <;> rfl
section
variable {s : Mst}
theorem stC_len (h : s.R.length = 16) : (stC s).length = 23 := by simp [stC, h]
theorem stC_get (h : s.R.length = 16) {i : Int} (h0 : 0 ≤ i) (h1 : i < 16) : (stC s)[i.toNat]? = some (U (vg s.R i)) := by
  unfold stC
  rw [List.getElem?_append_left (by simp; omega), List.getElem?_map, vg_at h0 (by omega)]
  rfl
theorem stC_reg (h : s.R.length = 16) (i : Int) (h0 : 0 ≤ i) (h1 : i < 16) (w : Int) : spl (stC s) i.toNat [U w] = stC { s with R := s.R.set i.toNat w } := by
  rw [spl_set _ _ _ (by rw [stC_len h]; omega)]
  unfold stC
  rw [List.set_append_left _ _ (by simp; omega)]
  simp [List.map_set]
theorem stC_at (h : s.R.length = 16) (a : Int) : spl (stC s) 21 [I a] = stC { s with at_ := a } := by
  rw [spl_set _ _ _ (by rw [stC_len h]; omega)]
  unfold stC
  rw [List.set_append_right _ _ (by simp [h])]
  simp [h]
theorem stC_steps (h : s.R.length = 16) (a : Int) : spl (stC s) 22 [I a] = stC { s with steps := a } := by
  rw [spl_set _ _ _ (by rw [stC_len h]; omega)]
  unfold stC
  rw [List.set_append_right _ _ (by simp [h])]
  simp [h]
theorem stC_ext {t : Mst} (h1 : s.R = t.R) (h2 : s.f = t.f) (h3 : s.at_ = t.at_) (h4 : s.steps = t.steps) : stC s = stC t := by unfold stC; rw [h1, h2, h3, h4]
end
theorem step_ms {i : Amd} (hi : Wd i.imm) (s : Mst) (hs : MsR s) (hsn : s.seen = []) (h0 : s.at_ = 0) : MsR (stepM [] [i] s).1 ∧ (stepM [] [i] s).1.seen.length ≤ 1 := by
  have hat : s.at_.toNat = 0 := by rw [h0]; rfl
  unfold stepM
  simp only [hat, List.getElem?_cons_zero]
  split
  · exact ⟨⟨hs.R, hs.W, hs.seen, hs.b⟩, by simp [hsn]⟩
  split
  · exact ⟨⟨hs.R, hs.W, hs.seen, hs.b⟩, by simp [hsn]⟩
  have d := deed_ok [] [i] i hi { s with steps := IntKind.i64.wrap (s.steps + 1), at_ := IntKind.i64.wrap (s.at_ + 1) } ⟨hs.R, hs.W, hs.seen, hs.b⟩ (by simp [hsn]) (by show 0 ≤ IntKind.i64.wrap (s.at_ + 1); rw [h0]; decide) (by show IntKind.i64.wrap (s.at_ + 1) ≤ ((1 : Nat) : Int); rw [h0]; decide)
  obtain ⟨d1, _, d3, _⟩ := d
  simp only [hsn, List.length_nil, Nat.zero_add] at d3
  split
  · exact ⟨d1, by simpa [hsn] using d3⟩
  · exact ⟨⟨d1.R, d1.W, d1.seen, d1.b⟩, by simpa [hsn] using d3⟩
theorem may_single {i : Amd} (hm : Lm.mayOne i = true) (h17 : i.op ≠ 17) (h18 : i.op ≠ 18) : Lm.mayA [i] = true := by
  unfold Lm.mayA
  have h1 : ([i] : List Amd).all (Lm.goodA [i]) = true := by simp [Lm.goodA, hm, h17, h18]
  rw [h1]
  have h2 : (Lm.keysA [i]).Nodup := by
    unfold Lm.keysA Lm.labsA
    split <;> simp [Lm.labsA]
  simp [h2]
theorem reads_law (i : Amd) (hw : Wd i.imm) (hdp : -9223372036854775808 ≤ i.disp ∧ i.disp ≤ 9223372036854775807) (s : Mst) (hs : stOk s) (r x : Int) (hx : Wd x) (H : List Blk) :
    ACalls Tryz.prog 5 [.agg i.cells, .agg (stC s), I r, U x] H (fun e H' => e = .ret (Bo true) ∧ H' = H) := by
  refine acalls_tidy (acalls_of_awp Tryz.func5 rfl (by kernel_rfl) ?_)
  have cr := fun H => rmayone_ok i H
  rw [rMay1_eq i hw hdp] at cr
  have cd := fun H => areads_ok i H
  have cw := fun H => awrites_ok i H
  have ck := known19_ok
  have cn := law19_num
  obtain ⟨ic, hic⟩ : ∃ ic, ic = i.cells := ⟨_, rfl⟩
  have hic' := hic
  simp only [Lm.Amd.cells] at hic'
  rw [← hic] at cr cd cw ⊢
  have hil : ic.length = 13 := by rw [hic']; rfl
  have hi0 : ic.take 1 = [I i.op] := by rw [hic']; rfl
  have hi00 : ic[0]? = some (I i.op) := by rw [hic']; rfl
  have hg0 : ∀ h : 0 < ic.length, ic[0]'h = I i.op := fun h => by have := List.getElem?_eq_getElem h; rw [hi00] at this; exact (Option.some.inj this).symm
  have ifz : ic.all AV.frzB = true := by rw [hic']; rfl
  have ion : ic.all AV.one = true := by rw [hic']; rfl
  obtain ⟨sc, hsc⟩ : ∃ sc, sc = stC s := ⟨_, rfl⟩
  have hsl : sc.length = 23 := by rw [hsc]; exact stC_len hs.R
  rw [← hsc]
  have leaf : Hid (∀ L, Tidy H (fun e H' => e = .ret (Bo true) ∧ H' = H) (.ret (Bo true)) (H ++ L)) := ⟨fun L => tidy_same rfl ⟨rfl, rfl⟩⟩
  refine awp_cut (fun _ => false) (fun _ => none) (fun f M => M = H ++ [.box 56 ic, .box 28 sc] ∧ f 2 = I r ∧ f 3 = U x ∧ f 4 = .bp H.length 0 ∧ f 5 = .bp (H.length + 1) 0) (by kernel_rfl) ?_ ?_
  · simp -dsimp [hil, hsl]
  rintro f M ⟨hM, f2, f3, f4, f5⟩
  obtain ⟨M0, hM0⟩ : ∃ M0, M0 = H ++ [.box 56 ic, .box 28 sc] := ⟨_, rfl⟩
  rw [← hM0] at hM
  rw [hM]
  clear hM M
  have b4 : M0[H.length]? = some (.box 56 ic) := by rw [hM0]; simp
  have b5 : M0[H.length + 1]? = some (.box 28 sc) := by rw [hM0]; simp
  have lf : ∀ L, Tidy H (fun e H' => e = .ret (Bo true) ∧ H' = H) (.ret (Bo true)) (M0 ++ L) := fun L => by rw [hM0, List.append_assoc]; exact leaf.out _
  have lf0 : Tidy H (fun e H' => e = .ret (Bo true) ∧ H' = H) (.ret (Bo true)) M0 := by have := lf []; rwa [List.append_nil] at this
  replace lf0 := Hid.mk lf0
  clear lf
  have hit : ic.take 13 = ic := List.take_of_length_le (by omega)
  refine awp_cut (fun _ => false) (fun _ => none) (fun f M => M = M0 ∧ (Lm.mayOne i = true ∧ i.op ≠ 17 ∧ i.op ≠ 18 ∧ 0 ≤ r ∧ r < 16) ∧ f 2 = I r ∧ f 3 = U x ∧ f 4 = .bp H.length 0 ∧ f 5 = .bp (H.length + 1) 0) (by kernel_rfl) ?_ ?_
  · obtain ⟨mo, hmo⟩ : ∃ mo, mo = Lm.mayOne i := ⟨_, rfl⟩
    rw [← hmo] at cr ⊢
    have bad : mo = false ∨ (i.op == 17) = true ∨ (i.op == 18) = true ∨ r < 0 ∨ 15 < r ∨ (mo = true ∧ (i.op == 17) = false ∧ (i.op == 18) = false ∧ 0 ≤ r ∧ r ≤ 15) := by
      cases mo <;> simp <;> omega
    have q17 : (i.op == 17) = true → (i.op == 18) = false := fun h => by simp at h; simp [h]
    cases mo
    · simp -dsimp [f2, f3, f4, f5, b4, b5, hit, hil, hi0, hg0]
      refine acallsW_det (cr _) ?_
      simp -dsimp [f2, f3, f4, f5, b4, b5, hit, hil, hi0, hg0]
      refine acallsW_det (ck _) ?_
      simp -dsimp
      exact lf0.out
    cases h17 : (i.op == 17)
    · cases h18 : (i.op == 18)
      · by_cases hr0 : r < 0
        · have d0 : decide (r < 0) = true := decide_eq_true hr0
          simp -dsimp [f2, f3, f4, f5, b4, b5, hit, hil, hi0, hg0]
          refine acallsW_det (cr _) ?_
          simp -dsimp [f2, f3, f4, f5, b4, b5, hit, hil, hi0, hg0, h17, h18, d0]
          refine acallsW_det (ck _) ?_
          simp -dsimp
          exact lf0.out
        · have d0 : decide (r < 0) = false := decide_eq_false hr0
          by_cases hr1 : 15 < r
          · have d1 : decide (15 < r) = true := decide_eq_true hr1
            simp -dsimp [f2, f3, f4, f5, b4, b5, hit, hil, hi0, hg0]
            refine acallsW_det (cr _) ?_
            simp -dsimp [f2, f3, f4, f5, b4, b5, hit, hil, hi0, hg0, h17, h18, d0, d1]
            refine acallsW_det (ck _) ?_
            simp -dsimp
            exact lf0.out
          · have d1 : decide (15 < r) = false := decide_eq_false hr1
            simp -dsimp [f2, f3, f4, f5, b4, b5, hit, hil, hi0, hg0]
            refine acallsW_det (cr _) ?_
            simp -dsimp [f2, f3, f4, f5, b4, b5, hit, hil, hi0, hg0, h17, h18, d0, d1]
            simp only [beq_eq_false_iff_ne] at h17 h18
            exact ⟨h17, h18, by omega, by omega⟩
      · simp -dsimp [f2, f3, f4, f5, b4, b5, hit, hil, hi0, hg0]
        refine acallsW_det (cr _) ?_
        simp -dsimp [f2, f3, f4, f5, b4, b5, hit, hil, hi0, hg0, h17, h18]
        refine acallsW_det (ck _) ?_
        simp -dsimp
        exact lf0.out
    · simp -dsimp [f2, f3, f4, f5, b4, b5, hit, hil, hi0, hg0]
      refine acallsW_det (cr _) ?_
      simp -dsimp [f2, f3, f4, f5, b4, b5, hit, hil, hi0, hg0, h17]
      refine acallsW_det (ck _) ?_
      simp -dsimp
      exact lf0.out
  clear f2 f3 f4 f5 f
  rintro f M ⟨hM, ⟨hm, h17, h18, hr0, hr1⟩, f2, f3, f4, f5⟩
  rw [hM]
  clear hM M
  obtain ⟨L, hL⟩ : ∃ L, L = readsE i := ⟨_, rfl⟩
  rw [← hL] at cd
  have hLl : L.length ≤ 5 := by
    rw [hL]
    unfold readsE
    rw [if_pos hm]
    · refine Nat.le_trans (riseL_len _) ?_
      have ad : ∀ b r l, (addIf b r l).length ≤ l.length + 1 := fun b r l => by unfold addIf; split <;> simp
      unfold readsP
      refine Nat.le_trans (ad _ _ _) (Nat.succ_le_succ (Nat.le_trans (ad _ _ _) (Nat.succ_le_succ (Nat.le_trans (ad _ _ _) (Nat.succ_le_succ (Nat.le_trans (ad _ _ _) (Nat.succ_le_succ (ad _ _ _))))))))
  refine awp_cut (fun _ => false) (fun _ => none) (fun f M => M = M0 ∧ f 2 = I r ∧ f 3 = U x ∧ f 4 = .bp H.length 0 ∧ f 5 = .bp (H.length + 1) 0 ∧ f 9 = .vs 1 (reE L)) (by kernel_rfl) ?_ ?_
  · simp -dsimp [f2, f3, f4, f5, b4, hil, hit]
    refine acallsW_det (cd _) ?_
    simp -dsimp [f2, f3, f4, f5, b4, hil, hit]
  clear f2 f3 f4 f5 f
  rintro f M ⟨hM, f2, f3, f4, f5, f9⟩
  rw [hM]
  clear hM M
  refine awp_cut (fun _ => false) (fun _ => none) (fun f M => M = M0 ∧ r ∉ L ∧ f 2 = I r ∧ f 3 = U x ∧ f 4 = .bp H.length 0 ∧ f 5 = .bp (H.length + 1) 0) (by kernel_rfl) ?_ ?_
  · simp -dsimp [f2, f3, f4, f5, f9]
    refine loop_rule (hn := fun _ => false) (od := fun _ => none) (fun (n : Nat) f M => M = M0 ∧ f 2 = I r ∧ f 3 = U x ∧ f 4 = .bp H.length 0 ∧ f 5 = .bp (H.length + 1) 0 ∧ f 9 = .vs 1 (reE L) ∧ f 10 = I n ∧ n ≤ L.length ∧ ∀ j, j < n → L[j]? ≠ some r) (fun n => L.length - n) (by kernel_rfl) 0 (by simp [f2, f3, f4, f5, f9]) ?_
    clear f2 f3 f4 f5 f9 f
    rintro n f M ⟨rfl, f2, f3, f4, f5, f9, f10, hn, hj⟩
    simp -dsimp [f2, f3, f4, f5, f9, f10]
    refine condVW_introD (fun hlt => ?_) (fun hlt => ?_)
    · have hlt' : n < L.length := by omega
      have e1 := List.getElem?_eq_getElem hlt'
      obtain ⟨y, hy⟩ : ∃ y, y = L[n] := ⟨_, rfl⟩
      rw [← hy] at e1
      clear hy
      simp -dsimp [f2, f3, f4, f5, f9, f10, e1]
      refine condVW_introD (fun he => ?_) (fun he => ?_)
      · simp -dsimp
        refine acallsW_det (ck _) ?_
        simp -dsimp
        exact lf0.out
      · simp -dsimp [f2, f3, f4, f5, f9, f10]
        refine ⟨n + 1, by omega, wrapS (by omega), by omega, fun j hjn hjr => ?_⟩
        by_cases hjn' : j = n
        · subst hjn'
          rw [e1] at hjr
          exact he (Option.some.inj hjr)
        · exact hj j (by omega) hjr
    · simp -dsimp [f2, f3, f4, f5, f9, f10]
      intro hm'
      obtain ⟨j, hj1, hj2⟩ := List.getElem_of_mem hm'
      exact hj j (by omega) (by rw [List.getElem?_eq_getElem hj1, hj2])
  clear f2 f3 f4 f5 f9 f
  rintro f M ⟨hM, hn, f2, f3, f4, f5⟩
  rw [hM]
  clear hM M
  have hn' : r ∉ readsE i := by rw [← hL]; exact hn
  clear hn hL hLl cd cr lf0
  have n0 : M0.length = H.length + 2 := by rw [hM0]; simp
  refine awp_cut (fun _ => false) (fun _ => none) (fun f M => M = M0 ++ [byB zeroB, meB [] (H.length + 2)] ∧ f 2 = I r ∧ f 3 = U x ∧ f 4 = .bp H.length 0 ∧ f 5 = .bp (H.length + 1) 0 ∧ f 11 = .bp (H.length + 3) 0 ∧ f 12 = I 0) (by kernel_rfl) ?_ ?_
  · simp -dsimp
    refine acallsW_of (mnew0_ok _) ?_
    rintro e _ ⟨rfl, rfl⟩
    simp -dsimp [f2, f3, f4, f5, n0]
  clear f2 f3 f4 f5 f
  rintro f M ⟨hM, f2, f3, f4, f5, f11, f12⟩
  rw [hM]
  clear hM M
  obtain ⟨NF, hNF⟩ : ∃ NF : List AV → List Int → List Blk → List Blk, ∀ S b X, NF S b X = H ++ ([.box 56 ic, .box 28 S, byB b, meB [] (H.length + 2)] ++ X) := ⟨_, fun _ _ _ => rfl⟩
  have h0 : M0 ++ [byB zeroB, meB [] (H.length + 2)] = NF sc zeroB [] := by rw [hM0, hNF]; simp
  rw [h0]
  clear h0
  have g4 : ∀ S b X, (NF S b X)[H.length]? = some (.box 56 ic) := fun S b X => by rw [hNF]; simp
  have g5 : ∀ S b X, (NF S b X)[H.length + 1]? = some (.box 28 S) := fun S b X => by rw [hNF]; simp
  have s5 : ∀ S b X S', (NF S b X).set (H.length + 1) (.box 28 S') = NF S' b X := fun S b X S' => by rw [hNF, hNF]; simp
  have sY : ∀ S b X b', (NF S b X).set (H.length + 2) (byB b') = NF S b' X := fun S b X b' => by rw [hNF, hNF]; simp
  have mem : ∀ S b X, b.length = 65536 → MemAt (NF S b X) (H.length + 3) (H.length + 2) [] b := fun S b X hb => ⟨by rw [hNF]; simp, by rw [hNF]; simp, hb⟩
  have gX : ∀ S b X j, (NF S b X)[H.length + (4 + j)]? = X[j]? := fun S b X j => by
    rw [hNF, ← List.append_assoc, List.getElem?_append_right (by simp)]
    congr 1
    simp
    omega
  have gX0 : ∀ S b X, (NF S b X)[H.length + 4]? = X[0]? := fun S b X => gX S b X 0
  have gX1 : ∀ S b X, (NF S b X)[H.length + 5]? = X[1]? := fun S b X => gX S b X 1
  have gX2 : ∀ S b X, (NF S b X)[H.length + 6]? = X[2]? := fun S b X => gX S b X 2
  have sX : ∀ S b X j Z, (NF S b X).set (H.length + (4 + j)) Z = NF S b (X.set j Z) := fun S b X j Z => by
    rw [hNF, hNF, ← List.append_assoc, ← List.append_assoc, List.set_append_right _ _ (by simp)]
    congr 2
    simp
    omega
  have sX0 : ∀ S b X Z, (NF S b X).set (H.length + 4) Z = NF S b (X.set 0 Z) := fun S b X Z => sX S b X 0 Z
  have sX1 : ∀ S b X Z, (NF S b X).set (H.length + 5) Z = NF S b (X.set 1 Z) := fun S b X Z => sX S b X 1 Z
  have ap : ∀ S b X Y, NF S b X ++ Y = NF S b (X ++ Y) := fun S b X Y => by rw [hNF, hNF]; simp
  have ln : ∀ S b X, (NF S b X).length = H.length + (4 + X.length) := fun S b X => by rw [hNF]; simp; omega
  refine awp_cut (fun _ => false) (fun _ => none) (fun f M => M = NF sc zeroB [] ∧ f 2 = I r ∧ f 3 = U x ∧ f 4 = .bp H.length 0 ∧ f 5 = .bp (H.length + 1) 0 ∧ f 11 = .bp (H.length + 3) 0) (by kernel_rfl) ?_ ?_
  · simp -dsimp [f12]
    refine acallsW_det (cn _ _) ?_
    simp -dsimp [f2, f3, f4, f5, f11]
  clear f2 f3 f4 f5 f11 f12 f
  rintro f M ⟨hM, f2, f3, f4, f5, f11⟩
  rw [hM]
  clear hM M
  obtain ⟨s0, hs0⟩ : ∃ s0 : Mst, s0 = { s with at_ := 0, steps := 0 } := ⟨_, rfl⟩
  obtain ⟨s1, hs1⟩ : ∃ s1, s1 = spl sc 21 [I 0] := ⟨_, rfl⟩
  obtain ⟨c0, hc0⟩ : ∃ c0, c0 = stC s0 := ⟨_, rfl⟩
  have hs1' : s1 = stC { s with at_ := 0 } := by rw [hs1, hsc]; exact stC_at hs.R 0
  have hs1l : s1.length = 23 := by rw [hs1']; exact stC_len hs.R
  have hs2 : spl s1 22 [I 0] = c0 := by rw [hs1', hc0, hs0]; exact stC_steps (s := { s with at_ := 0 }) hs.R 0
  have hR0 : s0.R.length = 16 := by rw [hs0]; exact hs.R
  have hc0l : c0.length = 23 := by rw [hc0]; exact stC_len hR0
  replace hs1 := hs1.symm
  refine awp_cut (fun _ => false) (fun _ => none) (fun f M => M = NF c0 zeroB [] ∧ f 2 = I r ∧ f 3 = U x ∧ f 4 = .bp H.length 0 ∧ f 5 = .bp (H.length + 1) 0 ∧ f 11 = .bp (H.length + 3) 0) (by kernel_rfl) ?_ ?_
  · simp -dsimp [f2, f3, f4, f5, f11, g5, s5, hsl, hs1, hs1l, hs2]
  clear f2 f3 f4 f5 f11 f
  rintro f M ⟨hM, f2, f3, f4, f5, f11⟩
  rw [hM]
  clear hM M hs1 hs1' hs1l hs2
  have tc0 : c0.take 23 = c0 := List.take_of_length_le (by omega)
  refine awp_cut (fun _ => false) (fun _ => none) (fun f M => M = NF c0 zeroB [.box 28 c0] ∧ f 2 = I r ∧ f 3 = U x ∧ f 4 = .bp H.length 0 ∧ f 5 = .bp (H.length + 1) 0 ∧ f 11 = .bp (H.length + 3) 0 ∧ f 13 = .bp (H.length + 4) 0) (by kernel_rfl) ?_ ?_
  · have one0 : c0.all AV.one = true := by rw [hc0]; exact stC_one _
    obtain ⟨Z, hZ⟩ : ∃ Z, Z = List.replicate 16 (U 0) ++ [Bo false, Bo false, Bo false, Bo false, Bo false, I 0, I 0] := ⟨_, rfl⟩
    simp -dsimp [f2, f3, f4, f5, f11, g5, hc0l, tc0, one0]
    simp -dsimp [ap, ln]
  clear f2 f3 f4 f5 f11 f
  rintro f M ⟨hM, f2, f3, f4, f5, f11, f13⟩
  rw [hM]
  clear hM M
  obtain ⟨t, ht⟩ : ∃ t : Mst, t = { s0 with R := s0.R.set r.toNat x } := ⟨_, rfl⟩
  obtain ⟨ct, hct⟩ : ∃ ct, ct = stC t := ⟨_, rfl⟩
  have hRt : t.R.length = 16 := by rw [ht]; simp [hR0]
  have hspt : spl c0 r.toNat [U x] = ct := by rw [hc0, hct, ht]; exact stC_reg hR0 r hr0 hr1 x
  have hctl : ct.length = 23 := by rw [hct]; exact stC_len hRt
  have rr : 0 ≤ r ∧ r < 16 := ⟨hr0, hr1⟩
  refine awp_cut (fun _ => false) (fun _ => none) (fun f M => M = NF c0 zeroB [.box 28 ct] ∧ f 2 = I r ∧ f 3 = U x ∧ f 4 = .bp H.length 0 ∧ f 5 = .bp (H.length + 1) 0 ∧ f 11 = .bp (H.length + 3) 0 ∧ f 13 = .bp (H.length + 4) 0) (by kernel_rfl) ?_ ?_
  · have r22 : r ≤ 22 := by omega
    simp -dsimp [f2, f3, f4, f5, f11, f13, gX0, sX0, hc0l, rr, r22, hspt]
  clear f2 f3 f4 f5 f11 f13 f
  rintro f M ⟨hM, f2, f3, f4, f5, f11, f13⟩
  rw [hM]
  clear hM M
  have slE : Lm.Amd.sl [i] = .vs 13 [ic] := by rw [hic]; rfl
  have hmA := may_single hm h17 h18
  have hwA : ∀ j ∈ [i], Wd j.imm := fun j hj => by rw [List.mem_singleton.1 hj]; exact hw
  have vw : ∀ j, Wd (vg s.R j) := fun j => by
    unfold vg
    rw [List.getD_eq_getElem?_getD]
    cases hg : s.R[j.toNat]? with
    | none => exact wd_0
    | some y => exact hs.W y (List.mem_of_getElem? hg)
  have ms0 : MsR s0 := ⟨hR0, by rw [hs0]; exact vw, by rw [hs0]; show s.seen.length ≤ _; rw [hs.seen]; decide, by rw [hs0]; show s.b.length = _; rw [hs.b]; exact zeroB_len⟩
  have sn0 : s0.seen = [] := by rw [hs0]; exact hs.seen
  have bz0 : s0.b = zeroB := by rw [hs0]; exact hs.b
  have at0 : s0.at_ = 0 := by rw [hs0]
  have apt := step_apart hm h17 h18 s0 at0 hR0 r x hr0 hr1 hn'
  have tm := step_ms hw s0 ms0 sn0 at0
  have ca := fun {M : List Blk} {k kb : Nat} (m : MemAt M k kb [] s0.b) => astep_run [i] hmA hwA s0 ms0 sn0 (by rw [at0]; decide) (by rw [at0]; exact Int.zero_le_ofNat _) [] (by simp) no_ok m
  obtain ⟨A, hA⟩ : ∃ A, A = stepM [] [i] s0 := ⟨_, rfl⟩
  rw [← hA] at ca apt tm
  obtain ⟨t2, ht2⟩ : ∃ t2 : Mst, t2 = { s0 with R := s0.R.set r.toNat x, b := A.1.b } := ⟨_, rfl⟩
  rw [← ht2] at apt
  have ms2 : MsR t2 := ⟨by rw [ht2]; simp [hR0], by rw [ht2]; exact vg_W ms0.W _ hx, by rw [ht2]; exact ms0.seen, by rw [ht2]; exact tm.1.b⟩
  have sn2 : t2.seen = [] := by rw [ht2]; exact sn0
  have at2 : t2.at_ = 0 := by rw [ht2]; exact at0
  have b2 : t2.b = A.1.b := by rw [ht2]
  have ct2 : stC t2 = ct := by rw [hct, ht2, ht]; rfl
  have tm2 := step_ms hw t2 ms2 sn2 at2
  have cb := fun {M : List Blk} {k kb : Nat} (m : MemAt M k kb [] t2.b) => astep_run [i] hmA hwA t2 ms2 sn2 (by rw [at2]; decide) (by rw [at2]; exact Int.zero_le_ofNat _) [] (by simp) no_ok m
  obtain ⟨B, hB⟩ : ∃ B, B = stepM [] [i] t2 := ⟨_, rfl⟩
  rw [← hB] at cb apt tm2
  rw [slE, bz0, ← hc0] at ca
  rw [slE, b2, ct2] at cb
  clear hA hB
  obtain ⟨ca1, hca1⟩ : ∃ c, c = stC A.1 := ⟨_, rfl⟩
  obtain ⟨cb1, hcb1⟩ : ∃ c, c = stC B.1 := ⟨_, rfl⟩
  rw [← hca1] at ca
  rw [← hcb1] at cb
  have la1 : ca1.length = 23 := by rw [hca1]; exact stC_len tm.1.R
  have lb1 : cb1.length = 23 := by rw [hcb1]; exact stC_len tm2.1.R
  have onea : ca1.all AV.one = true := by rw [hca1]; exact stC_one _
  have oneb : cb1.all AV.one = true := by rw [hcb1]; exact stC_one _
  have tct : ct.take 23 = ct := List.take_of_length_le (by omega)
  refine awp_cut (fun _ => false) (fun _ => none) (fun f M => M = NF c0 A.1.b [.box 28 ct, .box 28 ca1] ∧ f 2 = I r ∧ f 3 = U x ∧ f 4 = .bp H.length 0 ∧ f 5 = .bp (H.length + 1) 0 ∧ f 11 = .bp (H.length + 3) 0 ∧ f 13 = .bp (H.length + 4) 0 ∧ f 14 = .bp (H.length + 5) 0 ∧ f 15 = Se.sl A.1.seen ∧ f 16 = I A.2) (by kernel_rfl) ?_ ?_
  · simp -dsimp [f2, f3, f4, f5, f11, f13, g4, g5, hc0l, tc0, hil, hit, ifz, ion]
    refine acallsW_of (ca (mem _ _ _ zeroB_len)) ?_
    rintro e _ ⟨rfl, rfl⟩
    simp -dsimp [f2, f3, f4, f5, f11, f13, sY, onea, la1]
    simp -dsimp [ap, ln]
  clear f2 f3 f4 f5 f11 f13 f
  rintro f M ⟨hM, f2, f3, f4, f5, f11, f13, f14, f15, f16⟩
  rw [hM]
  clear hM M
  have pair : A.2 = B.2 := apt.e
  refine awp_cut (fun _ => false) (fun _ => none) (fun f M => M = NF c0 B.1.b [.box 28 ct, .box 28 ca1, .box 28 cb1] ∧ f 2 = I r ∧ f 3 = U x ∧ f 4 = .bp H.length 0 ∧ f 5 = .bp (H.length + 1) 0 ∧ f 14 = .bp (H.length + 5) 0 ∧ f 15 = Se.sl A.1.seen ∧ f 16 = I A.2 ∧ f 17 = .bp (H.length + 6) 0 ∧ f 18 = Se.sl B.1.seen ∧ f 19 = I B.2) (by kernel_rfl) ?_ ?_
  · simp -dsimp [f2, f3, f4, f5, f11, f13, f14, f15, f16, g4, gX0, hctl, tct, hil, hit, ifz, ion]
    refine acallsW_of (cb (mem _ _ _ tm.1.b)) ?_
    rintro e _ ⟨rfl, rfl⟩
    simp -dsimp [f2, f3, f4, f5, f11, f13, f14, f15, f16, sY, oneb, lb1]
    simp -dsimp [ap, ln]
  clear f2 f3 f4 f5 f11 f13 f14 f15 f16 f
  rintro f M ⟨hM, f2, f3, f4, f5, f14, f15, f16, f17, f18, f19⟩
  rw [hM]
  clear hM M
  obtain ⟨w, hw'⟩ : ∃ w, w = writesE i := ⟨_, rfl⟩
  rw [← hw'] at cw
  refine awp_cut (fun _ => false) (fun _ => none) (fun f M => M = NF c0 B.1.b [.box 28 ct, .box 28 ca1, .box 28 cb1] ∧ f 2 = I r ∧ f 3 = U x ∧ f 5 = .bp (H.length + 1) 0 ∧ f 14 = .bp (H.length + 5) 0 ∧ f 15 = Se.sl A.1.seen ∧ f 16 = I A.2 ∧ f 17 = .bp (H.length + 6) 0 ∧ f 18 = Se.sl B.1.seen ∧ f 19 = I B.2 ∧ f 20 = I w.1 ∧ f 21 = Bo w.2) (by kernel_rfl) ?_ ?_
  · simp -dsimp [f2, f3, f4, f5, f14, f15, f16, f17, f18, f19, g4, hil, hit]
    refine acallsW_det (cw _) ?_
    simp -dsimp [f2, f3, f4, f5, f14, f15, f16, f17, f18, f19]
  clear f2 f3 f4 f5 f14 f15 f16 f17 f18 f19 f
  rintro f M ⟨hM, f2, f3, f5, f14, f15, f16, f17, f18, f19, f20, f21⟩
  rw [hM]
  clear hM M
  refine awp_cut (fun _ => false) (fun _ => none) (fun f M => M = NF c0 B.1.b [.box 28 ct, .box 28 cb1, .box 28 cb1] ∧ f 14 = .bp (H.length + 5) 0 ∧ f 15 = Se.sl A.1.seen ∧ f 16 = I A.2 ∧ f 17 = .bp (H.length + 6) 0 ∧ f 18 = Se.sl B.1.seen ∧ f 19 = I B.2) (by kernel_rfl) ?_ ?_
  · have yes : ¬ (w = (r, true) ∧ A.2 = 0) → ca1[r.toNat]? = some (U (vg s0.R r)) ∧ cb1[r.toNat]? = some (U x) ∧ spl ca1 r.toNat [U x] = cb1 := fun h => by
      rw [hw'] at h
      obtain ⟨l1, l2, l3⟩ := apt.less h
      refine ⟨?_, ?_, ?_⟩
      · rw [hca1, stC_get tm.1.R hr0 hr1, l1]
      · rw [hcb1, stC_get tm2.1.R hr0 hr1, l2]
      · rw [hca1, stC_reg tm.1.R r hr0 hr1, hcb1]
        exact stC_ext l3 apt.f apt.at_ apt.steps
    have gs0 : c0[r.toNat]? = some (U (vg s0.R r)) := by rw [hc0]; exact stC_get hR0 hr0 hr1
    have no : w = (r, true) → A.2 = 0 → ca1 = cb1 := fun h1 h2 => by
      rw [hca1, hcb1]
      exact stC_ext (apt.same (by rw [← hw']; exact h1) h2) apt.f apt.at_ apt.steps
    have r22 : r ≤ 22 := by omega
    obtain ⟨w1, w2⟩ := w
    simp only at f20 f21
    cases w2
    · obtain ⟨y1, y2, y3⟩ := yes (by simp)
      simp -dsimp [f2, f3, f5, f14, f15, f16, f17, f18, f19, f20, f21, g5, gX1, gX2, sX1, hc0l, la1, lb1, rr, r22, gs0, y1, y2, y3]
    · by_cases hwr : w1 = r
      · by_cases he : A.2 = 0
        · have e := no (by rw [hwr]) he
          have q1 : (w1 != r) = false := by simp [hwr]
          have q2 : (A.2 != 0) = false := by simp [he]
          simp -dsimp [f2, f3, f5, f14, f15, f16, f17, f18, f19, f20, f21, q1, q2]
          refine acallsW_det (cn _ _) ?_
          simp -dsimp [f2, f3, f5, f14, f15, f16, f17, f18, f19, f20, f21, q1, q2]
          rw [e]
        · obtain ⟨y1, y2, y3⟩ := yes (by simp [he])
          have q1 : (w1 != r) = false := by simp [hwr]
          have q2 : (A.2 != 0) = true := by simp [he]
          simp -dsimp [f2, f3, f5, f14, f15, f16, f17, f18, f19, f20, f21, q1, q2]
          refine acallsW_det (cn _ _) ?_
          simp -dsimp [f2, f3, f5, f14, f15, f16, f17, f18, f19, f20, f21, g5, gX1, gX2, sX1, hc0l, la1, lb1, rr, r22, gs0, y1, y2, y3, q1, q2]
      · obtain ⟨y1, y2, y3⟩ := yes (by simp [hwr])
        have q1 : (w1 != r) = true := by simp [hwr]
        simp -dsimp [f2, f3, f5, f14, f15, f16, f17, f18, f19, f20, f21, g5, gX1, gX2, sX1, hc0l, la1, lb1, rr, r22, gs0, y1, y2, y3, q1]
  clear f2 f3 f5 f14 f15 f16 f17 f18 f19 f20 f21 f
  rintro f M ⟨hM, f14, f15, f16, f17, f18, f19⟩
  rw [hM]
  clear hM M
  refine awp_all (hn := fun _ => false) (od := fun _ => none) (by kernel_rfl) ?_
  have tcb : cb1.take 23 = cb1 := List.take_of_length_le (by omega)
  have eqb : binE Tryz.prog .eql 28 (.agg cb1) (.agg cb1) = some (Bo true) := by rw [hcb1]; exact st_eq _ tm2.1.R
  have css := fun H => sseen_ok B.1.seen (Nat.le_trans tm2.2 (by decide)) H
  rw [apt.seen] at f15
  rw [pair] at f16
  simp -dsimp [f14, f15, f16, f17, f18, f19]
  refine acallsW_det (cn _ _) ?_
  simp -dsimp [f14, f15, f16, f17, f18, f19]
  refine acallsW_det (cn _ _) ?_
  simp -dsimp [f14, f15, f16, f17, f18, f19, gX1, gX2, lb1, tcb, eqb]
  refine acallsW_det (css _) ?_
  simp -dsimp [f14, f15, f16, f17, f18, f19]
  refine acallsW_det (ck _) ?_
  simp -dsimp
  rw [hNF]
  exact leaf.out _
end Go.Proofs
