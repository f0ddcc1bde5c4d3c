/- The document's layer 11: how many statements come. -/
import Derived.Test.YtihlekehnihnpaaFwZtoU19
set_option linter.unusedVariables false
set_option linter.unusedSimpArgs false
set_option maxHeartbeats 4000000
set_option maxRecDepth 100000
namespace Go.Proofs
open Go.Mu
mutual
def Sm.sizeI : Sm → Int
  | .mk k _ _ _ _ _ lo hi b el => if k = 5 then smsSizeI b * (hi - lo) else 1 + smsSizeI b + smsSizeI el
def smsSizeI : List Sm → Int
  | [] => 0
  | s :: l => s.sizeI + smsSizeI l
end
theorem Sm.sizeI_eq (s : Sm) : s.sizeI = if s.kind = 5 then smsSizeI s.body * (s.high - s.low) else 1 + smsSizeI s.body + smsSizeI s.els := by cases s; rw [Sm.sizeI]; rfl
theorem sizeI_nonneg (m : Nat) : ∀ l : List Sm, smsCount l ≤ m → smsFors l = true → 0 ≤ smsSizeI l := by
  induction m with
  | zero => intro l hl _; have := sms_len l; obtain rfl : l = [] := List.eq_nil_of_length_eq_zero (by omega); simp [smsSizeI]
  | succ m ih =>
    intro l
    induction l with
    | nil => intro _ _; simp [smsSizeI]
    | cons s l ihl =>
      intro h hf
      simp only [smsCount] at h
      have hc := Sm.count_eq s
      rw [smsFors, Bool.and_eq_true] at hf
      obtain ⟨f1, f2, f3⟩ := fors_body hf.1
      have a := ih s.body (by omega) f1
      have b := ih s.els (by omega) f2
      have c := ihl (by omega) hf.2
      rw [smsSizeI, Sm.sizeI_eq]
      split
      · rename_i hk
        obtain ⟨q1, q2, q3⟩ := f3 hk
        have : 0 ≤ smsSizeI s.body * (s.high - s.low) := Int.mul_nonneg a (by omega)
        omega
      · omega
theorem smsSizeI_nonneg {l : List Sm} (h : smsFors l = true) : 0 ≤ smsSizeI l := sizeI_nonneg _ l (Nat.le_refl _) h
theorem fors_drop {l : List Sm} (h : smsFors l = true) (i : Nat) : smsFors (l.drop i) = true := by
  induction l generalizing i with
  | nil => simpa using h
  | cons s l ih => cases i with
    | zero => exact h
    | succ i => rw [smsFors, Bool.and_eq_true] at h; exact ih h.2 i
theorem quo_gt {one w most : Int} (h1 : 0 < one) (hw : 0 ≤ w) (hm : 0 ≤ most) : most / one < w ↔ most < one * w := by
  rw [Int.ediv_lt_iff_lt_mul h1, Int.mul_comm]
theorem rsize11_ok (most : Int) (hm0 : 0 ≤ most) (hm1 : most ≤ 65536) (m : Nat) : ∀ (l : List Sm), smsCount l < m → smsCount l ≤ 2^36 → smsFors l = true → ∀ (H : List Blk), ACalls Try.prog 18 [Sm.sl l, I most] H (fun r H' => r = .ret (I (min (smsSizeI l) (most + 1))) ∧ H' = H) := by
  induction m with
  | zero => intro l h; omega
  | succ m ih =>
    intro l hm hc hf H
    refine acalls_tidy (acalls_of_vc (hn := fun _ => false) (od := fun _ => none) Try.func18 rfl (by kernel_rfl) ?_)
    have hl := sms_len l
    obtain ⟨E, hE⟩ : ∃ E, E = min (smsSizeI l) (most + 1) := ⟨_, rfl⟩
    rw [← hE]
    have hb0 := smsSizeI_nonneg hf
    have wm : IntKind.i64.wrap (most + 1) = most + 1 := wrapI (by omega) (by omega)
    simp -dsimp
    refine loop_rule (hn := fun _ => false) (od := fun _ => none) (fun (i : Nat) f H' => (∃ L, H' = H ++ L) ∧ (∃ n, f 5 = I n ∧ 0 ≤ n ∧ n ≤ 2^40 ∧ min (n + smsSizeI (l.drop i)) (most + 1) = E) ∧ f 0 = Sm.sl l ∧ f 1 = I most ∧ f 6 = I i ∧ i ≤ l.length) (fun i => l.length - i) (by kernel_rfl) 0
      (by
        simp
        rw [hE]) ?_
    rintro i f _ ⟨⟨L, rfl⟩, ⟨n, f5, n0, n1, hinv⟩, f0, f1, f6, hi⟩
    have hD0 := smsSizeI_nonneg (fors_drop hf (i + 1))
    have hend : ¬ (i < l.length ∧ n ≤ most) → min n (most + 1) = E := fun h => by
      by_cases hlt : i < l.length
      · have := smsSizeI_nonneg (fors_drop hf i)
        omega
      · rw [drop_end hlt, smsSizeI] at hinv; omega
    have fin : ∀ v, v = E → Tidy H (fun e H' => e = .ret (I E) ∧ H' = H) (.ret (I v)) (H ++ L) := fun v h => by rw [h]; exact tidy_same rfl ⟨rfl, rfl⟩
    by_cases hlt : i < l.length
    · by_cases hnm : n ≤ most
      · rw [drop_cons hlt, smsSizeI, Sm.sizeI_eq] at hinv
        have hlx := List.getElem?_eq_getElem hlt
        have hg := sms_get hlt
        have hfx := fors_get hf hlt
        obtain ⟨x, hx⟩ : ∃ x, x = l[i] := ⟨_, rfl⟩
        rw [← hx] at hinv hlx hg hfx
        clear hx
        have hcc := Sm.count_eq x
        obtain ⟨q1, q2, q3⟩ := fors_body hfx
        have hb1 := smsSizeI_nonneg q1
        have hb2 := smsSizeI_nonneg q2
        have cb := fun H => ih x.body (by omega) (by omega) q1 H
        have ce := fun H => ih x.els (by omega) (by omega) q2 H
        obtain ⟨B, hB⟩ : ∃ B, B = smsSizeI x.body := ⟨_, rfl⟩
        obtain ⟨C, hC⟩ : ∃ C, C = smsSizeI x.els := ⟨_, rfl⟩
        obtain ⟨D, hD⟩ : ∃ D, D = smsSizeI (l.drop (i + 1)) := ⟨_, rfl⟩
        rw [← hB] at hinv hb1 cb
        rw [← hC] at hinv hb2 ce
        rw [← hD] at hinv hD0
        obtain ⟨b, hb⟩ : ∃ b, b = min B (most + 1) := ⟨_, rfl⟩
        obtain ⟨c, hc⟩ : ∃ c, c = min C (most + 1) := ⟨_, rfl⟩
        rw [← hb] at cb
        rw [← hc] at ce
        have w1 : IntKind.i64.wrap (n + 1) = n + 1 := wrapI (by omega) (by omega)
        have w2 : IntKind.i64.wrap (n + 1 + b) = n + 1 + b := wrapI (by omega) (by omega)
        have w3 : IntKind.i64.wrap (n + 1 + b + c) = n + 1 + b + c := wrapI (by omega) (by omega)
        have hli : (i : Int) < l.length := by omega
        by_cases hk : x.kind = 5
        · rw [if_pos hk] at hinv
          obtain ⟨q1, q2, q3⟩ := q3 hk
          obtain ⟨w, hw⟩ : ∃ w, w = x.high - x.low := ⟨_, rfl⟩
          rw [← hw] at hinv
          have w4 : IntKind.u64.wrap (x.high - x.low) = w := by rw [hw]; exact wrapU (by omega) (by omega)
          have w5 : IntKind.i64.wrap w = w := wrapI (by omega) (by omega)
          replace hlt := Hid.mk hlt
          simp -dsimp [f0, f1, f5, f6, hli, hnm, hlx, hk]
          refine acallsW_det (cb _) ?_
          have hbm : 0 ≤ b ∧ b ≤ most + 1 := by omega
          by_cases hb0 : b = 0
          · have hB0 : B = 0 := by omega
            rw [hB0, Int.zero_mul] at hinv
            rw [hb0]
            have w6 : IntKind.i64.wrap n = n := wrapI (by omega) (by omega)
            have w6' : IntKind.i64.wrap 0 = 0 := by decide
            simp -dsimp [f0, f1, f5, f6, hlx, w4, w5, w6]
            refine ⟨i + 1, ?_⟩
            rw [← hD, w6', Int.add_zero, w6]
            have hlt := hlt.out
            exact ⟨by omega, ⟨by omega, by omega, by omega⟩, wrapS (by omega), by omega⟩
          · have hb1 : 0 < b := by omega
            have hbd : (0 : Int) < b := hb1
            have hbn : ¬ b = 0 := hb0
            have hq : most.tdiv b = most / b := by rw [Int.tdiv_eq_ediv_of_nonneg hm0]
            have hq2 : 0 ≤ most / b ∧ most / b ≤ most := ⟨Int.ediv_nonneg hm0 (by omega), Int.ediv_le_self _ hm0⟩
            have w7 : IntKind.i64.wrap (most / b) = most / b := wrapI (by omega) (by omega)
            have w8 : IntKind.u64.wrap (most / b) = most / b := wrapU (by omega) (by omega)
            simp -dsimp [f0, f1, f5, f6, hlx, w4, w5, hbd, hbn, hq, w7, w8]
            refine condVW_introD (fun hgt => ?_) (fun hgt => ?_)
            · rw [quo_gt hb1 (by omega) hm0] at hgt
              simp -dsimp [f1, wm]
              refine tidy_same rfl ⟨?_, rfl⟩
              have : most < B * w := by
                have : b * w ≤ B * w := Int.mul_le_mul_of_nonneg_right (by omega) (by omega)
                omega
              have : most + 1 = E := by omega
              rw [this]
            · rw [quo_gt hb1 (by omega) hm0] at hgt
              have hbw : b * w = B * w := by
                by_cases hw0 : w = 0
                · rw [hw0, Int.mul_zero, Int.mul_zero]
                · have : b * 1 ≤ b * w := Int.mul_le_mul_of_nonneg_left (by omega) (by omega)
                  have : b = B := by omega
                  rw [this]
              obtain ⟨T, hT⟩ : ∃ T, T = b * w := ⟨_, rfl⟩
              have hT0 : 0 ≤ T := by rw [hT]; exact Int.mul_nonneg (by omega) (by omega)
              rw [← hbw, ← hT] at hinv
              rw [← hT] at hgt
              have w9 : IntKind.i64.wrap T = T := wrapI (by omega) (by omega)
              have w10 : IntKind.i64.wrap (n + T) = n + T := wrapI (by omega) (by omega)
              simp -dsimp [f0, f1, f5, f6, hlx, w4, w5, ← hT, w9, w10]
              refine ⟨i + 1, ?_⟩
              rw [← hD]
              have hlt := hlt.out
              exact ⟨by omega, ⟨by omega, by omega, by omega⟩, wrapS (by omega), by omega⟩
        · rw [if_neg hk] at hinv
          have hkb : (x.kind != 5) = true := by simpa using hk
          replace hlt := Hid.mk hlt
          simp -dsimp [f0, f1, f5, f6, hli, hnm, hlx, hkb, w1]
          refine callDW_intro (cb _) ?_
          simp -dsimp [f0, f1, f5, f6, hlx, w1, w2]
          refine callDW_intro (ce _) ?_
          simp -dsimp [f0, f1, f5, f6, w1, w2, w3]
          refine ⟨i + 1, ?_⟩
          rw [← hD]
          have hlt := hlt.out
          exact ⟨by omega, ⟨by omega, by omega, by omega⟩, wrapS (by omega), by omega⟩
      · have hli : (i : Int) < l.length := by omega
        have he := hend (fun h => hnm h.2)
        have he2 : (if most + 1 < n then most + 1 else n) = E := by rw [← he]; split <;> omega
        simp -dsimp [f0, f1, f5, f6, hli, hnm, wm]
        exact fin _ he2
    · have hli : ¬ (i : Int) < l.length := by omega
      have he := hend (fun h => hlt h.1)
      have he2 : (if most + 1 < n then most + 1 else n) = E := by rw [← he]; split <;> omega
      simp -dsimp [f0, f1, f5, f6, hli, wm]
      exact fin _ he2
end Go.Proofs
