/- The document's layer 11: how many statements come. -/
import Derived.Test.YtihlekehnihnpaaGreatFwZtoU19
import Derived.Test.YtihlekehnihnpaaGreatU24toU28
import Derived.Test.YtihlekehnihnpaaGreatG28toUA
set_option linter.unusedVariables false
set_option linter.unusedSimpArgs false
set_option maxHeartbeats 4000000
set_option maxRecDepth 100000
namespace Go.Proofs
open Go.Mu
mutual
def Sm.sizeI : Sm → Int
  | .mk k _ _ _ _ _ lo hi b el => if k = 5 then smsSizeI b * (hi - lo) else 1 + smsSizeI b + smsSizeI el
def smsSizeI : List Sm → Int
  | [] => 0
  | s :: l => s.sizeI + smsSizeI l
end
theorem Sm.sizeI_eq (s : Sm) : s.sizeI = if s.kind = 5 then smsSizeI s.body * (s.high - s.low) else 1 + smsSizeI s.body + smsSizeI s.els := by cases s; rw [Sm.sizeI]; rfl
theorem sizeI_nonneg (m : Nat) : ∀ l : List Sm, smsCount l ≤ m → smsFors l = true → 0 ≤ smsSizeI l := by
  induction m with
  | zero => intro l hl _; have := sms_len l; obtain rfl : l = [] := List.eq_nil_of_length_eq_zero (by omega); simp [smsSizeI]
  | succ m ih =>
    intro l
    induction l with
    | nil => intro _ _; simp [smsSizeI]
    | cons s l ihl =>
      intro h hf
      simp only [smsCount] at h
      have hc := Sm.count_eq s
      rw [smsFors, Bool.and_eq_true] at hf
      obtain ⟨f1, f2, f3⟩ := fors_body hf.1
      have a := ih s.body (by omega) f1
      have b := ih s.els (by omega) f2
      have c := ihl (by omega) hf.2
      rw [smsSizeI, Sm.sizeI_eq]
      split
      · rename_i hk
        obtain ⟨q1, q2, q3⟩ := f3 hk
        have : 0 ≤ smsSizeI s.body * (s.high - s.low) := Int.mul_nonneg a (by omega)
        omega
      · omega
theorem smsSizeI_nonneg {l : List Sm} (h : smsFors l = true) : 0 ≤ smsSizeI l := sizeI_nonneg _ l (Nat.le_refl _) h
theorem fors_drop {l : List Sm} (h : smsFors l = true) (i : Nat) : smsFors (l.drop i) = true := by
  induction l generalizing i with
  | nil => simpa using h
  | cons s l ih => cases i with
    | zero => exact h
    | succ i => rw [smsFors, Bool.and_eq_true] at h; exact ih h.2 i
theorem quo_gt {one w most : Int} (h1 : 0 < one) (hw : 0 ≤ w) (hm : 0 ≤ most) : most / one < w ↔ most < one * w := by
  rw [Int.ediv_lt_iff_lt_mul h1, Int.mul_comm]
theorem rsize11_ok (most : Int) (hm0 : 0 ≤ most) (hm1 : most ≤ 65536) (m : Nat) : ∀ (l : List Sm), smsCount l < m → smsCount l ≤ 2^36 → smsFors l = true → ∀ (H : List Blk), ACalls Tryz.prog 14 [Sm.sl l, I most] H (fun r H' => r = .ret (I (min (smsSizeI l) (most + 1))) ∧ H' = H) := by
  induction m with
  | zero => intro l h; omega
  | succ m ih =>
    intro l hm hc hf H
    refine acalls_tidy (acalls_of_vc (hn := fun _ => false) (od := fun _ => none) Tryz.func14 rfl (by kernel_rfl) ?_)
    have hl := sms_len l
    obtain ⟨E, hE⟩ : ∃ E, E = min (smsSizeI l) (most + 1) := ⟨_, rfl⟩
    rw [← hE]
    have hb0 := smsSizeI_nonneg hf
    have wm : IntKind.i64.wrap (most + 1) = most + 1 := wrapI (by omega) (by omega)
    simp -dsimp
    refine loop_rule (hn := fun _ => false) (od := fun _ => none) (fun (i : Nat) f H' => (∃ L, H' = H ++ L) ∧ (∃ n, f 5 = I n ∧ 0 ≤ n ∧ n ≤ 2^40 ∧ min (n + smsSizeI (l.drop i)) (most + 1) = E) ∧ f 0 = Sm.sl l ∧ f 1 = I most ∧ f 6 = I i ∧ i ≤ l.length) (fun i => l.length - i) (by kernel_rfl) 0
      (by
        simp
        rw [hE]) ?_
    rintro i f _ ⟨⟨L, rfl⟩, ⟨n, f5, n0, n1, hinv⟩, f0, f1, f6, hi⟩
    have hD0 := smsSizeI_nonneg (fors_drop hf (i + 1))
    have hend : ¬ (i < l.length ∧ n ≤ most) → min n (most + 1) = E := fun h => by
      by_cases hlt : i < l.length
      · have := smsSizeI_nonneg (fors_drop hf i)
        omega
      · rw [drop_end hlt, smsSizeI] at hinv; omega
    have fin : ∀ v, v = E → Tidy H (fun e H' => e = .ret (I E) ∧ H' = H) (.ret (I v)) (H ++ L) := fun v h => by rw [h]; exact tidy_same rfl ⟨rfl, rfl⟩
    by_cases hlt : i < l.length
    · by_cases hnm : n ≤ most
      · rw [drop_cons hlt, smsSizeI, Sm.sizeI_eq] at hinv
        have hlx := List.getElem?_eq_getElem hlt
        have hg := sms_get hlt
        have hfx := fors_get hf hlt
        obtain ⟨x, hx⟩ : ∃ x, x = l[i] := ⟨_, rfl⟩
        rw [← hx] at hinv hlx hg hfx
        clear hx
        have hcc := Sm.count_eq x
        obtain ⟨q1, q2, q3⟩ := fors_body hfx
        have hb1 := smsSizeI_nonneg q1
        have hb2 := smsSizeI_nonneg q2
        have cb := fun H => ih x.body (by omega) (by omega) q1 H
        have ce := fun H => ih x.els (by omega) (by omega) q2 H
        obtain ⟨B, hB⟩ : ∃ B, B = smsSizeI x.body := ⟨_, rfl⟩
        obtain ⟨C, hC⟩ : ∃ C, C = smsSizeI x.els := ⟨_, rfl⟩
        obtain ⟨D, hD⟩ : ∃ D, D = smsSizeI (l.drop (i + 1)) := ⟨_, rfl⟩
        rw [← hB] at hinv hb1 cb
        rw [← hC] at hinv hb2 ce
        rw [← hD] at hinv hD0
        obtain ⟨b, hb⟩ : ∃ b, b = min B (most + 1) := ⟨_, rfl⟩
        obtain ⟨c, hc⟩ : ∃ c, c = min C (most + 1) := ⟨_, rfl⟩
        rw [← hb] at cb
        rw [← hc] at ce
        have w1 : IntKind.i64.wrap (n + 1) = n + 1 := wrapI (by omega) (by omega)
        have w2 : IntKind.i64.wrap (n + 1 + b) = n + 1 + b := wrapI (by omega) (by omega)
        have w3 : IntKind.i64.wrap (n + 1 + b + c) = n + 1 + b + c := wrapI (by omega) (by omega)
        have hli : (i : Int) < l.length := by omega
        by_cases hk : x.kind = 5
        · rw [if_pos hk] at hinv
          obtain ⟨q1, q2, q3⟩ := q3 hk
          obtain ⟨w, hw⟩ : ∃ w, w = x.high - x.low := ⟨_, rfl⟩
          rw [← hw] at hinv
          have w4 : IntKind.u64.wrap (x.high - x.low) = w := by rw [hw]; exact wrapU (by omega) (by omega)
          have w5 : IntKind.i64.wrap w = w := wrapI (by omega) (by omega)
          replace hlt := Hid.mk hlt
          simp -dsimp [f0, f1, f5, f6, hli, hnm, hlx, hk]
          refine acallsW_det (cb _) ?_
          have hbm : 0 ≤ b ∧ b ≤ most + 1 := by omega
          by_cases hb0 : b = 0
          · have hB0 : B = 0 := by omega
            rw [hB0, Int.zero_mul] at hinv
            rw [hb0]
            have w6 : IntKind.i64.wrap n = n := wrapI (by omega) (by omega)
            have w6' : IntKind.i64.wrap 0 = 0 := by decide
            simp -dsimp [f0, f1, f5, f6, hlx, w4, w5, w6]
            refine ⟨i + 1, ?_⟩
            rw [← hD, w6', Int.add_zero, w6]
            have hlt := hlt.out
            exact ⟨by omega, ⟨by omega, by omega, by omega⟩, wrapS (by omega), by omega⟩
          · have hb1 : 0 < b := by omega
            have hbd : (0 : Int) < b := hb1
            have hbn : ¬ b = 0 := hb0
            have hq : most.tdiv b = most / b := by rw [Int.tdiv_eq_ediv_of_nonneg hm0]
            have hq2 : 0 ≤ most / b ∧ most / b ≤ most := ⟨Int.ediv_nonneg hm0 (by omega), Int.ediv_le_self _ hm0⟩
            have w7 : IntKind.i64.wrap (most / b) = most / b := wrapI (by omega) (by omega)
            have w8 : IntKind.u64.wrap (most / b) = most / b := wrapU (by omega) (by omega)
            simp -dsimp [f0, f1, f5, f6, hlx, w4, w5, hbd, hbn, hq, w7, w8]
            refine condVW_introD (fun hgt => ?_) (fun hgt => ?_)
            · rw [quo_gt hb1 (by omega) hm0] at hgt
              simp -dsimp [f1, wm]
              refine tidy_same rfl ⟨?_, rfl⟩
              have : most < B * w := by
                have : b * w ≤ B * w := Int.mul_le_mul_of_nonneg_right (by omega) (by omega)
                omega
              have : most + 1 = E := by omega
              rw [this]
            · rw [quo_gt hb1 (by omega) hm0] at hgt
              have hbw : b * w = B * w := by
                by_cases hw0 : w = 0
                · rw [hw0, Int.mul_zero, Int.mul_zero]
                · have : b * 1 ≤ b * w := Int.mul_le_mul_of_nonneg_left (by omega) (by omega)
                  have : b = B := by omega
                  rw [this]
              obtain ⟨T, hT⟩ : ∃ T, T = b * w := ⟨_, rfl⟩
              have hT0 : 0 ≤ T := by rw [hT]; exact Int.mul_nonneg (by omega) (by omega)
              rw [← hbw, ← hT] at hinv
              rw [← hT] at hgt
              have w9 : IntKind.i64.wrap T = T := wrapI (by omega) (by omega)
              have w10 : IntKind.i64.wrap (n + T) = n + T := wrapI (by omega) (by omega)
              simp -dsimp [f0, f1, f5, f6, hlx, w4, w5, ← hT, w9, w10]
              refine ⟨i + 1, ?_⟩
              rw [← hD]
              have hlt := hlt.out
              exact ⟨by omega, ⟨by omega, by omega, by omega⟩, wrapS (by omega), by omega⟩
        · rw [if_neg hk] at hinv
          have hkb : (x.kind != 5) = true := by simpa using hk
          replace hlt := Hid.mk hlt
          simp -dsimp [f0, f1, f5, f6, hli, hnm, hlx, hkb, w1]
          refine callDW_intro (cb _) ?_
          simp -dsimp [f0, f1, f5, f6, hlx, w1, w2]
          refine callDW_intro (ce _) ?_
          simp -dsimp [f0, f1, f5, f6, w1, w2, w3]
          refine ⟨i + 1, ?_⟩
          rw [← hD]
          have hlt := hlt.out
          exact ⟨by omega, ⟨by omega, by omega, by omega⟩, wrapS (by omega), by omega⟩
      · have hli : (i : Int) < l.length := by omega
        have he := hend (fun h => hnm h.2)
        have he2 : (if most + 1 < n then most + 1 else n) = E := by rw [← he]; split <;> omega
        simp -dsimp [f0, f1, f5, f6, hli, hnm, wm]
        exact fin _ he2
    · have hli : ¬ (i : Int) < l.length := by omega
      have he := hend (fun h => hlt h.1)
      have he2 : (if most + 1 < n then most + 1 else n) = E := by rw [← he]; split <;> omega
      simp -dsimp [f0, f1, f5, f6, hli, wm]
      exact fin _ he2
end Go.Proofs
namespace Go.Proofs
open Go.Mu
theorem put_size (nm : ByteArray) (n : Int) (m : Nat) : ∀ l : List Sm, smsCount l ≤ m → smsSizeI (smsPut nm n l) = smsSizeI l := by
  induction m with
  | zero => intro l hl; have := sms_len l; obtain rfl : l = [] := List.eq_nil_of_length_eq_zero (by omega); rfl
  | succ m ih =>
    intro l
    induction l with
    | nil => intro _; rfl
    | cons s l ihl =>
      intro h
      simp only [smsCount] at h
      have hc := Sm.count_eq s
      rw [smsPut, smsSizeI, ihl (by omega), smsSizeI, Sm.put_eq]
      split
      · rfl
      · rw [Sm.sizeI, ih s.body (by omega), ih s.els (by omega), ← Sm.sizeI_eq]
def LaySz {α β : Type} (r : Int → Option (α × β × Int)) (S : Int) : Prop := ∀ left, 0 ≤ left → (S ≤ left → ∃ b t, r left = some (b, t, left - S)) ∧ (left < S → r left = none)
theorem round_size {rec : List Sm → Int → LR} {nm : ByteArray} {lo : Int} {body : List Sm} {S : Int} (hS : 0 ≤ S) (hr : ∀ n : Nat, LaySz (rec (smsPut nm (lo + n) body)) S) (c : Nat) : ∀ n : Nat, LaySz (roundGo rec nm lo body c n) (S * c) := by
  induction c with
  | zero => intro n left h0; exact ⟨fun _ => ⟨[], [], by rw [roundGo]; simp⟩, fun h => by simp at h; omega⟩
  | succ c ih =>
    intro n left h0
    have hc0 : 0 ≤ S * (c : Int) := Int.mul_nonneg hS (by omega)
    have hmul : S * ((c + 1 : Nat) : Int) = S + S * c := by push_cast; rw [Int.mul_add, Int.mul_one]; omega
    rw [hmul, roundGo]
    obtain ⟨h1, h2⟩ := hr n left h0
    refine ⟨fun h => ?_, fun h => ?_⟩
    · obtain ⟨b, t, e⟩ := h1 (by omega)
      obtain ⟨b2, t2, e2⟩ := (ih (n + 1) (left - S) (by omega)).1 (by omega)
      rw [e]
      simp only []
      rw [e2]
      exact ⟨b ++ b2, t :: t2, by simp only [Option.map_some, Option.some.injEq, Prod.mk.injEq, true_and]; omega⟩
    · by_cases hl : S ≤ left
      · obtain ⟨b, t, e⟩ := h1 hl
        rw [e]
        simp only []
        rw [(ih (n + 1) (left - S) (by omega)).2 (by omega)]
        rfl
      · rw [h2 (by omega)]
theorem layM_size (d : Nat) : ∀ l : List Sm, smsHigh l < d → smsFors l = true → LaySz (layM d l) (smsSizeI l) := by
  induction d with
  | zero => intro l h; omega
  | succ d ih =>
    intro l
    induction l with
    | nil => intro _ _ left h0; exact ⟨fun _ => ⟨[], [], by rw [layM, layGo, smsSizeI]; simp⟩, fun h => by rw [smsSizeI] at h; omega⟩
    | cons s l ihl =>
      intro hh hf left h0
      rw [smsHigh, Sm.high2_eq] at hh
      rw [smsFors, Bool.and_eq_true] at hf
      obtain ⟨f1, f2, f3⟩ := fors_body hf.1
      have n1 := smsSizeI_nonneg f1
      have n2 := smsSizeI_nonneg f2
      have n3 := smsSizeI_nonneg hf.2
      have hl := ihl (by omega) hf.2
      rw [layM] at hl ⊢
      rw [layGo, smsSizeI, Sm.sizeI_eq]
      by_cases hk : s.kind = 5
      · rw [if_pos hk, if_pos hk]
        obtain ⟨q1, q2, q3⟩ := f3 hk
        have hrr := round_size (rec := layM d) (nm := s.name) (lo := s.low) (body := s.body) n1 (fun n => by
          have := ih (smsPut s.name (s.low + n) s.body) (by rw [put_high]; omega) (by rw [put_fors]; exact f1)
          rwa [put_size _ _ _ _ (Nat.le_refl _)] at this) (s.high - s.low).toNat 0 left h0
        have hcn : (((s.high - s.low).toNat : Nat) : Int) = s.high - s.low := by omega
        rw [hcn] at hrr
        obtain ⟨T, hT⟩ : ∃ T, T = smsSizeI s.body * (s.high - s.low) := ⟨_, rfl⟩
        have hT0 : 0 ≤ T := by rw [hT]; exact Int.mul_nonneg n1 (by omega)
        rw [← hT] at hrr ⊢
        refine ⟨fun h => ?_, fun h => ?_⟩
        · obtain ⟨b, t, e⟩ := hrr.1 (by omega)
          obtain ⟨b2, t2, e2⟩ := (hl (left - T) (by omega)).1 (by omega)
          rw [e]
          simp only []
          rw [e2]
          exact ⟨b ++ b2, .mk 6 [] false t :: t2, by simp only [Option.map_some, Option.some.injEq, Prod.mk.injEq, true_and]; omega⟩
        · by_cases hlt : T ≤ left
          · obtain ⟨b, t, e⟩ := hrr.1 hlt
            rw [e]
            simp only []
            rw [(hl (left - T) (by omega)).2 (by omega)]
            rfl
          · rw [hrr.2 (by omega)]
      · rw [if_neg hk, if_neg hk]
        have hb := ih s.body (by omega) f1
        have he := ih s.els (by omega) f2
        refine ⟨fun h => ?_, fun h => ?_⟩
        · rw [if_neg (by omega)]
          obtain ⟨b, t, e⟩ := (hb (left - 1) (by omega)).1 (by omega)
          obtain ⟨b2, t2, e2⟩ := (he (left - 1 - smsSizeI s.body) (by omega)).1 (by omega)
          obtain ⟨b3, t3, e3⟩ := (hl (left - 1 - smsSizeI s.body - smsSizeI s.els) (by omega)).1 (by omega)
          rw [e]
          simp only []
          rw [e2]
          simp only []
          rw [e3]
          exact ⟨s.withB b b2 :: b3, termOf s.kind t t2 :: t3, by simp only [Option.map_some, Option.some.injEq, Prod.mk.injEq, true_and]; omega⟩
        · by_cases h1 : left - 1 < 0
          · rw [if_pos h1]
          · rw [if_neg h1]
            by_cases h2 : smsSizeI s.body ≤ left - 1
            · obtain ⟨b, t, e⟩ := (hb (left - 1) (by omega)).1 h2
              rw [e]
              simp only []
              by_cases h3 : smsSizeI s.els ≤ left - 1 - smsSizeI s.body
              · obtain ⟨b2, t2, e2⟩ := (he (left - 1 - smsSizeI s.body) (by omega)).1 h3
                rw [e2]
                simp only []
                rw [(hl _ (by omega)).2 (by omega)]
                rfl
              · rw [(he _ (by omega)).2 (by omega)]
            · rw [(hb _ (by omega)).2 (by omega)]
end Go.Proofs
namespace Go.Proofs
open Go.Mu
theorem rround_bnd {rrec : List Sm → L2} (nm : ByteArray) (lo : Int) (body : List Sm) (S : Int) (hr : ∀ n : Nat, (((rrec (smsPut nm (lo + n) body)).1.length : Nat) : Int) ≤ S) (c : Nat) : ∀ n : Nat, (((rroundGo rrec nm lo body c n).1.length : Nat) : Int) ≤ S * c ∧ (rroundGo rrec nm lo body c n).2.length = c := by
  induction c with
  | zero => intro n; simp [rroundGo]
  | succ c ih =>
    intro n
    have hmul : S * ((c + 1 : Nat) : Int) = S + S * c := by push_cast; rw [Int.mul_add, Int.mul_one]; omega
    rw [hmul, rroundGo]
    have a := hr n
    have b := ih (n + 1)
    simp only [List.length_append, List.length_cons]
    push_cast
    omega
theorem rlay_bnd (d : Nat) : ∀ l : List Sm, smsHigh l < d → smsFors l = true → (((rlayM d l).1.length : Nat) : Int) ≤ smsSizeI l ∧ (rlayM d l).2.length = l.length := by
  induction d with
  | zero => intro l h; omega
  | succ d ih =>
    intro l
    induction l with
    | nil => intro _ _; rw [rlayM, rlayGo]; simp [smsSizeI]
    | cons s l ihl =>
      intro hh hf
      rw [smsHigh, Sm.high2_eq] at hh
      rw [smsFors, Bool.and_eq_true] at hf
      obtain ⟨f1, f2, f3⟩ := fors_body hf.1
      have n1 := smsSizeI_nonneg f1
      have n2 := smsSizeI_nonneg f2
      have hl := ihl (by omega) hf.2
      rw [rlayM] at hl ⊢
      rw [rlayGo, smsSizeI, Sm.sizeI_eq]
      by_cases hk : s.kind = 5
      · rw [if_pos hk, if_pos hk]
        obtain ⟨q1, q2, q3⟩ := f3 hk
        have hrr := rround_bnd (rrec := rlayM d) s.name s.low s.body (smsSizeI s.body) (fun n => by
          have := (ih (smsPut s.name (s.low + n) s.body) (by rw [put_high]; omega) (by rw [put_fors]; exact f1)).1
          rwa [put_size _ _ _ _ (Nat.le_refl _)] at this) (s.high - s.low).toNat 0
        have hcn : (((s.high - s.low).toNat : Nat) : Int) = s.high - s.low := by omega
        rw [hcn] at hrr
        simp only [List.length_append, List.length_cons]
        push_cast
        omega
      · rw [if_neg hk, if_neg hk]
        by_cases k3 : s.kind = 3
        · rw [if_pos k3]; simp only [List.length_cons]; push_cast; omega
        · rw [if_neg k3]
          by_cases k4 : s.kind = 4
          · rw [if_pos k4]; simp only [List.length_cons]; push_cast; omega
          · rw [if_neg k4]; simp only [List.length_cons]; push_cast; omega
theorem size_nn {s : Sm} (h : s.fors = true) : 0 ≤ s.sizeI := by
  obtain ⟨f1, f2, f3⟩ := fors_body h
  have n1 := smsSizeI_nonneg f1
  have n2 := smsSizeI_nonneg f2
  rw [Sm.sizeI_eq]
  split
  · rename_i hk
    obtain ⟨q1, q2, q3⟩ := f3 hk
    exact Int.mul_nonneg n1 (by omega)
  · omega
theorem size_get {l : List Sm} (h : smsFors l = true) {i : Nat} (hi : i < l.length) : l[i].sizeI ≤ smsSizeI l := by
  induction l generalizing i with
  | nil => simp at hi
  | cons s l ih =>
    rw [smsFors, Bool.and_eq_true] at h
    have n3 := smsSizeI_nonneg h.2
    have n1 := size_nn h.1
    rw [smsSizeI]
    cases i with
    | zero => show s.sizeI ≤ _; omega
    | succ i => have := ih h.2 (i := i) (by simpa using hi); simp only [List.getElem_cons_succ]; omega
theorem size_parts {s : Sm} (h : s.fors = true) (hs : s.sizeI ≤ 65536) : (¬ s.kind = 5 → smsSizeI s.body ≤ 65536 ∧ smsSizeI s.els ≤ 65536) ∧ (s.kind = 5 → 0 < s.high - s.low → smsSizeI s.body ≤ 65536) := by
  obtain ⟨f1, f2, f3⟩ := fors_body h
  have n1 := smsSizeI_nonneg f1
  have n2 := smsSizeI_nonneg f2
  rw [Sm.sizeI_eq] at hs
  refine ⟨fun hk => ?_, fun hk hw => ?_⟩
  · rw [if_neg hk] at hs; omega
  · rw [if_pos hk] at hs
    have : smsSizeI s.body * 1 ≤ smsSizeI s.body * (s.high - s.low) := Int.mul_le_mul_of_nonneg_left (by omega) n1
    omega
def RLayI (H : List Blk) (E : L2) (rest : L2) (i : Nat) (f4 f5 : AV) (H' : List Blk) : Prop :=
  ∃ out ts L, H' = H ++ stB out :: tmB ts :: L ∧ f4 = stS H.length out ∧ f5 = tmS (H.length + 1) ts ∧ ts.length = i ∧ (out ++ rest.1, ts ++ rest.2) = E
def RRouI (H : List Blk) (E1 : List Sm × List (List Tm)) (ts : List Tm) (L : List Blk) (k : Nat) (rest : List Sm × List (List Tm)) (n : Nat) (f4 f11 : AV) (H' : List Blk) : Prop :=
  ∃ out subs L2, H' = H ++ stB out :: tmB ts :: (L ++ .row 39 1 (subs.map fun a => [Tm.sl a]) :: L2) ∧ f4 = stS H.length out ∧ f11 = .hs k 0 n n ∧ subs.length = n ∧ (out ++ rest.1, subs ++ rest.2) = E1
def RStep (H : List Blk) (E : L2) (rest : L2) (out : List Sm) (ts : List Tm) (L : List Blk) (bX : Blk) (f5 : AV) (H' : List Blk) : Prop :=
  ∃ raw tm z, H' = H ++ stB out :: ownB 116 4 (ts.map Tm.cells ++ [raw]) :: (L ++ [bX, .box 57 (Sm.cells z)]) ∧ f5 = ownS (H.length + 1) (ts.map Tm.cells ++ [raw]) ∧ WeakL raw (Tm.cells tm) ∧ (out ++ z :: rest.1, ts ++ tm :: rest.2) = E
theorem ownS_len (k : Nat) {es es' : List (List AV)} (h : es.length = es'.length) : ownS k es = ownS k es' := by
  unfold ownS
  cases es <;> cases es' <;> simp at h ⊢
  omega
theorem rlay_ok (d : Nat) : ∀ (l : List Sm), smsHigh l < d → smsCount l ≤ 2^36 → smsFors l = true → smsSizeI l ≤ 65536 → ∀ (H : List Blk),
    ACalls Tryz.prog 57 [Sm.sl l] H (fun e H' => e = .ret (.tup [Sm.sl (rlayM d l).1, Tm.sl (rlayM d l).2]) ∧ H' = H) := by
  induction d with
  | zero => intro l h; omega
  | succ d ih =>
    intro l hh hcl hfl hsz H
    refine acalls_under fun hu _ => acalls_tidy (acalls_weakE (acalls_spare 2 (acalls_of_awp Tryz.func57 rfl (by kernel_rfl) ?_)))
    have hlen := sms_len l
    have hEb := rlay_bnd (d + 1) l hh hfl
    obtain ⟨E, hE⟩ : ∃ E, E = rlayM (d + 1) l := ⟨_, rfl⟩
    rw [← hE] at hEb ⊢
    rw [rlayM] at hE
    have fin : ∀ out ts L, (out, ts) = E → WeakE (Tidy H fun e H' => e = AE.ret (.tup [Sm.sl E.1, Tm.sl E.2]) ∧ H' = H) (.ret (.tup [stS H.length out, tmS (H.length + 1) ts])) (H ++ stB out :: tmB ts :: L) := fun out ts L h =>
      tidy_own2 rfl hu _ _ 16 4 _ _ (sms_frzB out) (tms_frzB ts) (by rw [← h]; exact ⟨rfl, rfl⟩)
    obtain ⟨N, hN⟩ : ∃ N : List Sm → List Tm → List Blk → List Blk, N = fun out ts L => H ++ stB out :: tmB ts :: L := ⟨_, rfl⟩
    have hNe : ∀ out ts L, N out ts L = H ++ stB out :: tmB ts :: L := fun out ts L => by rw [hN]
    have hNa : ∀ out ts L R, N out ts L ++ R = N out ts (L ++ R) := fun out ts L R => by rw [hNe, hNe]; simp
    have hNl : ∀ out ts L, (N out ts L).length = H.length + 2 + L.length := fun out ts L => by rw [hNe]; simp; omega
    have nO : ∀ out ts L, (N out ts L)[H.length]? = some (stB out) := fun out ts L => by rw [hNe]; simp
    have nT : ∀ out ts L, (N out ts L)[H.length + 1]? = some (tmB ts) := fun out ts L => by rw [hNe]; simp
    have sO : ∀ out ts L o', (N out ts L).set H.length (ownB 57 16 o') = H ++ ownB 57 16 o' :: tmB ts :: L := fun out ts L o' => by rw [hNe]; simp
    have sT : ∀ out ts L t', (N out ts L).set (H.length + 1) (ownB 116 4 t') = H ++ stB out :: ownB 116 4 t' :: L := fun out ts L t' => by rw [hNe]; simp
    have nN : ∀ out ts L i, (N out ts L)[H.length + 2 + i]? = L[i]? := fun out ts L i => by
      rw [hNe, List.getElem?_append_right (by omega), show H.length + 2 + i - H.length = i + 1 + 1 from by omega]; rfl
    have sN : ∀ out ts L i X, (N out ts L).set (H.length + 2 + i) X = N out ts (L.set i X) := fun out ts L i X => by
      rw [hNe, hNe, List.set_append, if_neg (by omega), show H.length + 2 + i - H.length = i + 1 + 1 from by omega]; rfl
    have hM0 : H ++ List.replicate 2 Blk.pend = N [] [] [] := by rw [hNe]; simp [ownB]
    rw [hM0]
    clear hN hM0
    refine awp_cut (fun _ => false) (fun _ => none) (fun f H' => H' = N [] [] [] ∧ f 0 = Sm.sl l) (by kernel_rfl) ?_ ?_
    · simp -dsimp
    rintro g _ ⟨rfl, g0⟩
    refine awp_cut (fun _ => false) (fun _ => none) (fun f H' => H' = N [] [] [] ∧ f 0 = Sm.sl l ∧ f 4 = nilS) (by kernel_rfl) ?_ ?_
    · simp -dsimp [g0]
    clear g g0
    rintro g _ ⟨rfl, g0, g4⟩
    refine awp_cut (fun _ => false) (fun _ => none) (fun f H' => H' = N [] [] [] ∧ f 0 = Sm.sl l ∧ f 4 = nilS ∧ f 5 = nilS) (by kernel_rfl) ?_ ?_
    · simp -dsimp [g0, g4]
    clear g g0 g4
    rintro g _ ⟨rfl, g0, g4, g5⟩
    refine awp_cutA (fun f H' => ∃ out ts L, H' = N out ts L ∧ f 4 = stS H.length out ∧ f 5 = tmS (H.length + 1) ts ∧ (out, ts) = E) ?_ ?_
    rotate_left
    · clear g g0 g4 g5
      rintro g _ ⟨out, ts, L, rfl, g4, g5, h⟩
      refine awp_all (fun _ => false) (fun _ => none) (by kernel_rfl) ?_
      simp -dsimp [g4, g5]
      rw [hNe]
      exact fin _ _ _ h
    refine awp_cut (fun _ => false) (fun _ => none) (fun f H' => H' = N [] [] [] ∧ f 0 = Sm.sl l ∧ f 4 = nilS ∧ f 5 = nilS ∧ f 6 = I 0) (by kernel_rfl) ?_ ?_
    · simp -dsimp [g0, g4, g5]
    clear g g0 g4 g5
    rintro g _ ⟨rfl, g0, g4, g5, g6⟩
    refine awp_block ?_
    refine awp_loopI (fun (i : Nat) f H' => RLayI H E (rlayGo (rlayM d) (l.drop i)) i (f 4) (f 5) H' ∧ f 0 = Sm.sl l ∧ f 6 = I i ∧ i ≤ l.length) (fun i => l.length - i) 0
      ⟨⟨[], [], [], hNe _ _ _, by rw [g4]; exact (ownS_nil _).symm, by rw [g5]; exact (ownS_nil _).symm, rfl, by rw [hE]; rfl⟩, g0, g6, by omega⟩ ?_
    clear g g0 g4 g5 g6 hE
    rintro i g _ ⟨⟨out, ts, L, rfl, g4, g5, htl, hinv⟩, g0, g6, hi⟩
    rw [← hNe]
    refine awp_cut (fun _ => false) (fun _ => none) (fun f H' => H' = N out ts L ∧ f 0 = Sm.sl l ∧ f 4 = stS H.length out ∧ f 5 = tmS (H.length + 1) ts ∧ f 6 = I i ∧ i < l.length) (by kernel_rfl) ?_ ?_
    · simp -dsimp [g0, g4, g5, g6]
      refine condVW_introD (fun hlt => ?_) (fun hlt => ?_)
      · simp -dsimp [g0, g4, g5, g6]
        omega
      · rw [drop_end hlt, rlayGo, List.append_nil, List.append_nil] at hinv
        simp -dsimp [g4, g5]
        exact ⟨out, ts, ⟨L, rfl⟩, rfl, rfl, hinv⟩
    clear g g0 g4 g5 g6
    rintro g _ ⟨rfl, g0, g4, g5, g6, hlt⟩
    have hlx : l[i]? = some l[i] := List.getElem?_eq_getElem hlt
    have hgx := sms_get hlt
    have hfx := fors_get hfl hlt
    have hhx := high_get hlt
    rw [drop_cons hlt, rlayGo] at hinv
    have hszd := size_parts hfx (by have := size_get hfl hlt; omega)
    obtain ⟨x, hx⟩ : ∃ x, x = l[i] := ⟨_, rfl⟩
    rw [← hx] at hlx hgx hfx hhx hinv hszd
    clear hx
    have hcx := Sm.count_eq x
    rw [Sm.high2_eq] at hhx
    obtain ⟨hfb, hfe, hfk⟩ := fors_body hfx
    refine awp_cutA (fun f H' => RLayI H E (rlayGo (rlayM d) (l.drop (i + 1))) (i + 1) (f 4) (f 5) H' ∧ f 0 = Sm.sl l ∧ f 6 = I i) ?_ ?_
    rotate_left
    · clear g g0 g4 g5 g6
      rintro g H' ⟨ho, g0, g6⟩
      replace ho := Hid.mk ho
      refine awp_all (fun _ => false) (fun _ => none) (by kernel_rfl) ?_
      simp -dsimp [g0, g6]
      exact ⟨i + 1, by omega, ho.out, wrapS (by omega), by omega⟩
    obtain ⟨rest, hrest⟩ : ∃ rest, rest = rlayGo (rlayM d) (l.drop (i + 1)) := ⟨_, rfl⟩
    rw [← hrest] at hinv ⊢
    clear hrest
    have hob : out.length ≤ 65536 := by
      have := congrArg (fun e => e.1.length) hinv
      simp only [List.length_append] at this
      omega
    refine awp_block ?_
    obtain ⟨bX, hbX⟩ : ∃ bX, bX = Blk.box 57 x.cells := ⟨_, rfl⟩
    simp only [Sm.cells_eq] at hbX
    obtain ⟨bO, hbO⟩ : ∃ bO, bO = Blk.box 57 x.cells := ⟨_, rfl⟩
    simp only [Sm.cells_eq] at hbO
    obtain ⟨k1, hk1⟩ : ∃ k1, k1 = H.length + 2 + L.length := ⟨_, rfl⟩
    obtain ⟨k2, hk2⟩ : ∃ k2, k2 = k1 + 1 := ⟨_, rfl⟩
    refine awp_cut (fun _ => false) (fun _ => none) (fun f H' => H' = N out ts L ++ [bX] ∧ f 0 = Sm.sl l ∧ f 4 = stS H.length out ∧ f 5 = tmS (H.length + 1) ts ∧ f 6 = I i ∧ f 7 = .bp (N out ts L).length 0) (by kernel_rfl) ?_ ?_
    · simp -dsimp [g0, g4, g5, g6, hlx, hbX]
    clear g g0 g4 g5 g6
    rw [hNl, hNa, ← hk1]
    rintro g _ ⟨rfl, g0, g4, g5, g6, g7⟩
    have gX : ∀ out ts R, (N out ts (L ++ bX :: R))[k1]? = some (.box 57 [I x.kind, St x.name, St.sl x.names, I x.e.op, U x.e.word, St x.e.name, Ex.sl x.e.args, I x.a.op, U x.a.word, St x.a.name, Ex.sl x.a.args, Ex.sl x.args, U x.low, U x.high, Sm.sl x.body, Sm.sl x.els]) := fun out ts R => by rw [hk1, nN, ← hbX]; simp
    refine awp_cut (fun _ => false) (fun _ => none) (fun f H' => H' = N out ts (L ++ [bX]) ++ [bO] ∧ f 0 = Sm.sl l ∧ f 4 = stS H.length out ∧ f 5 = tmS (H.length + 1) ts ∧ f 6 = I i ∧ f 7 = .bp k1 0 ∧ f 8 = .bp (N out ts (L ++ [bX])).length 0) (by kernel_rfl) ?_ ?_
    · obtain ⟨V, hV⟩ : ∃ V, V = N out ts (L ++ [bX]) := ⟨_, rfl⟩
      have hVx := gX out ts []
      rw [← hV] at hVx ⊢
      simp -dsimp [g0, g4, g5, g6, g7, hVx]
      exact hbO.symm
    clear g g0 g4 g5 g6 g7
    rw [hNl, hNa, show H.length + 2 + (L ++ [bX]).length = k2 from by simp [hk2, hk1]; omega, List.append_assoc]
    rintro g _ ⟨rfl, g0, g4, g5, g6, g7, g8⟩
    refine awp_cut (fun _ => false) (fun _ => none) (fun f H' => H' = N out ts (L ++ [bX, bO]) ∧ f 0 = Sm.sl l ∧ f 4 = stS H.length out ∧ f 5 = tmS (H.length + 1) ts ∧ f 6 = I i ∧ f 7 = .bp k1 0 ∧ f 8 = .bp k2 0) (by kernel_rfl) ?_ ?_
    · simp -dsimp [g0, g4, g5, g6, g7, g8]
    clear g g0 g4 g5 g6 g7 g8
    rintro g _ ⟨rfl, g0, g4, g5, g6, g7, g8⟩
    have gY : ∀ out ts y, (N out ts (L ++ [bX, y]))[k2]? = some y := fun out ts y => by rw [hk2, hk1, show H.length + 2 + L.length + 1 = H.length + 2 + (L.length + 1) from by omega, nN]; simp
    have sY : ∀ out ts y y', (N out ts (L ++ [bX, y])).set k2 y' = N out ts (L ++ [bX, y']) := fun out ts y y' => by rw [hk2, hk1, show H.length + 2 + L.length + 1 = H.length + 2 + (L.length + 1) from by omega, sN]; simp
    refine awp_cutA (fun f H' => RStep H E rest out ts L bX (f 5) H' ∧ f 0 = Sm.sl l ∧ f 4 = stS H.length out ∧ f 6 = I i ∧ f 8 = .bp k2 0) ?_ ?_
    rotate_left
    · clear g g0 g4 g5 g6 g7 g8
      rintro g _ ⟨⟨raw, tm, z, rfl, g5, hw, hz⟩, g0, g4, g6, g8⟩
      refine awp_weakO (H.length + 1) 116 4 (ts.map Tm.cells ++ [raw]) ((ts ++ [tm]).map Tm.cells) (by simp) (by rw [List.map_append]; exact weakR_app (weakR_refl _) (.cons hw .nil)) ?_
      have e1 : (H ++ stB out :: ownB 116 4 (ts.map Tm.cells ++ [raw]) :: (L ++ [bX, .box 57 z.cells])).set (H.length + 1) (ownB 116 4 ((ts ++ [tm]).map Tm.cells)) = N out (ts ++ [tm]) (L ++ [bX, .box 57 z.cells]) := by rw [hNe, List.set_append, if_neg (by omega), Nat.add_sub_cancel_left]; rfl
      rw [e1]
      have g5' : g 5 = tmS (H.length + 1) (ts ++ [tm]) := by rw [g5]; exact ownS_len _ (by simp)
      have hY := gY out (ts ++ [tm]) (.box 57 z.cells)
      simp only [Sm.cells_eq] at hY ⊢
      refine awp_all (fun d => d == 106) (fun _ => none) (by kernel_rfl) ?_
      simp -dsimp [g0, g4, g5', g6, g8, hY]
      refine appendVW_own (k := H.length) (es := out.map Sm.cells) (by rw [nO]) (by simp; omega) (by simp; omega) ?_
      have ho1 : out.map Sm.cells ++ [[I z.kind, St z.name, St.sl z.names, I z.e.op, U z.e.word, St z.e.name, Ex.sl z.e.args, I z.a.op, U z.a.word, St z.a.name, Ex.sl z.a.args, Ex.sl z.args, U z.low, U z.high, Sm.sl z.body, Sm.sl z.els]] = (out ++ [z]).map Sm.cells := by rw [List.map_append, List.map_cons, Sm.cells_eq]; rfl
      rw [sO, ho1]
      simp -dsimp [g0, g4, g5', g6]
      refine ⟨out ++ [z], ts ++ [tm], _, by rw [stB, ← ho1], by rw [stS, ← ho1], rfl, by simp [htl], ?_⟩
      rw [← hz]
      simp
    refine awp_cut (fun _ => false) (fun _ => none) (fun f H' => H' = N out ts (L ++ [bX, bO]) ∧ f 0 = Sm.sl l ∧ f 4 = stS H.length out ∧ f 5 = tmS (H.length + 1) ts ∧ f 6 = I i ∧ f 7 = .bp k1 0 ∧ f 8 = .bp k2 0 ∧ f 27 = I x.kind) (by kernel_rfl) ?_ ?_
    · simp -dsimp [g0, g4, g5, g6, g7, g8, gX]
    clear g g0 g4 g5 g6 g7 g8
    rintro g _ ⟨rfl, g0, g4, g5, g6, g7, g8, g27⟩
    refine awp_block ?_
    refine awp_cut (fun _ => false) (fun _ => none) (fun f H' => H' = N out ts (L ++ [bX, bO]) ∧ f 0 = Sm.sl l ∧ f 4 = stS H.length out ∧ f 5 = tmS (H.length + 1) ts ∧ f 6 = I i ∧ f 7 = .bp k1 0 ∧ f 8 = .bp k2 0 ∧ f 27 = I x.kind ∧ f 32 = Bo (x.kind == 5)) (by kernel_rfl) ?_ ?_
    · simp -dsimp [g0, g4, g5, g6, g7, g8, g27]
    clear g g0 g4 g5 g6 g7 g8 g27
    rintro g _ ⟨rfl, g0, g4, g5, g6, g7, g8, g27, g32⟩
    by_cases hk : x.kind = 5
    · rw [if_pos hk] at hinv
      refine awp_condT (by kernel_rfl) (by show g 32 = _; rw [g32]; simp [hk]) ?_
      obtain ⟨q1, q2, q3⟩ := hfk hk
      obtain ⟨cnt, hcnt⟩ : ∃ cnt, cnt = (x.high - x.low).toNat := ⟨_, rfl⟩
      have hcn : x.high - x.low = (cnt : Int) := by rw [hcnt]; omega
      rw [← hcnt] at hinv
      obtain ⟨R, hR⟩ : ∃ R, R = rroundGo (rlayM d) x.name x.low x.body cnt 0 := ⟨_, rfl⟩
      rw [← hR] at hinv
      simp only [] at hinv
      obtain ⟨E1, hE1⟩ : ∃ E1, E1 = (out ++ R.1, R.2) := ⟨_, rfl⟩
      have hE1b : E1.1.length ≤ 65536 := by
        have := congrArg (fun e => e.1.length) hinv
        simp only [List.length_append] at this
        rw [hE1]
        simp only [List.length_append]
        omega
      obtain ⟨kS, hkS⟩ : ∃ kS, kS = k2 + 1 := ⟨_, rfl⟩
      obtain ⟨P, hP⟩ : ∃ P, P = L ++ [bX, bO] := ⟨_, rfl⟩
      have hPl : P.length = L.length + 2 := by rw [hP]; simp
      have gXP : ∀ out ts R, (N out ts (P ++ R))[k1]? = some (.box 57 [I x.kind, St x.name, St.sl x.names, I x.e.op, U x.e.word, St x.e.name, Ex.sl x.e.args, I x.a.op, U x.a.word, St x.a.name, Ex.sl x.a.args, Ex.sl x.args, U x.low, U x.high, Sm.sl x.body, Sm.sl x.els]) := fun out ts R => by rw [hP, List.append_assoc]; exact gX _ _ _
      have gS : ∀ out ts y R, (N out ts (P ++ y :: R))[kS]? = some y := fun out ts y R => by rw [hkS, hk2, hk1, show H.length + 2 + L.length + 1 + 1 = H.length + 2 + P.length from by omega, nN]; simp
      have sS : ∀ out ts y R y', (N out ts (P ++ y :: R)).set kS y' = N out ts (P ++ y' :: R) := fun out ts y R y' => by rw [hkS, hk2, hk1, show H.length + 2 + L.length + 1 + 1 = H.length + 2 + P.length from by omega, sN]; simp
      rw [← hP]
      have hPk : (N out ts P).length = kS := by rw [hNl]; omega
      refine awp_cut (fun d => d == 34) (fun _ => none) (fun f H' => H' = N out ts P ++ [.row 39 1 []] ∧ f 0 = Sm.sl l ∧ f 4 = stS H.length out ∧ f 5 = tmS (H.length + 1) ts ∧ f 6 = I i ∧ f 7 = .bp k1 0 ∧ f 11 = .hs (N out ts P).length 0 0 0) (by kernel_rfl) ?_ ?_
      · simp -dsimp [g0, g4, g5, g6, g7]
      clear g g0 g4 g5 g6 g7 g8 g27 g32
      rw [hPk, hNa]
      rintro g _ ⟨rfl, g0, g4, g5, g6, g7, g11⟩
      refine awp_cutA (fun f H' => RRouI H E1 ts P kS ([], []) cnt (f 4) (f 11) H' ∧ f 0 = Sm.sl l ∧ f 5 = tmS (H.length + 1) ts ∧ f 6 = I i) ?_ ?_
      · refine awp_cut (fun _ => false) (fun _ => none) (fun f H' => H' = N out ts (P ++ [.row 39 1 []]) ∧ f 0 = Sm.sl l ∧ f 4 = stS H.length out ∧ f 5 = tmS (H.length + 1) ts ∧ f 6 = I i ∧ f 7 = .bp k1 0 ∧ f 11 = .hs kS 0 0 0 ∧ f 12 = U x.low) (by kernel_rfl) ?_ ?_
        · simp -dsimp [g0, g4, g5, g6, g7, g11, gXP]
        clear g g0 g4 g5 g6 g7 g11
        rintro g _ ⟨rfl, g0, g4, g5, g6, g7, g11, g12⟩
        refine awp_block ?_
        refine awp_loopI (fun (n : Nat) f H' => RRouI H E1 ts P kS (rroundGo (rlayM d) x.name x.low x.body (cnt - n) n) n (f 4) (f 11) H' ∧ f 0 = Sm.sl l ∧ f 5 = tmS (H.length + 1) ts ∧ f 6 = I i ∧ f 7 = .bp k1 0 ∧ f 12 = U (x.low + n) ∧ n ≤ cnt) (fun n => cnt - n) 0
          ⟨⟨out, [], [], hNe _ _ _, g4, g11, rfl, by rw [hE1, hR]; rfl⟩, g0, g5, g6, g7, by rw [g12]; simp, by omega⟩ ?_
        clear g g0 g4 g5 g6 g7 g11 g12
        rintro n g _ ⟨⟨out', subs, L2, rfl, g4, g11, hsl, hinv'⟩, g0, g5, g6, g7, g12, hn⟩
        rw [← hNe]
        obtain ⟨V, hV⟩ : ∃ V, V = N out' ts (P ++ .row 39 1 (subs.map fun a => [Tm.sl a]) :: L2) := ⟨_, rfl⟩
        have hVx := gXP out' ts (.row 39 1 (subs.map fun a => [Tm.sl a]) :: L2)
        rw [← hV] at hVx ⊢
        refine awp_cut (fun _ => false) (fun _ => none) (fun f H' => V = H' ∧ f 0 = Sm.sl l ∧ f 4 = stS H.length out' ∧ f 5 = tmS (H.length + 1) ts ∧ f 6 = I i ∧ f 7 = .bp k1 0 ∧ f 11 = .hs kS 0 n n ∧ f 12 = U (x.low + n) ∧ n < cnt) (by kernel_rfl) ?_ ?_
        · simp -dsimp [g0, g4, g5, g6, g7, g11, g12, hVx]
          refine condVW_introD (fun hlt => ?_) (fun hlt => ?_)
          · simp -dsimp [g0, g4, g5, g6, g7, g11, g12]
            omega
          · have hnc : n = cnt := by omega
            have h0 : cnt - n = 0 := by omega
            rw [h0, rroundGo] at hinv'
            subst hnc
            simp -dsimp [g0, g4, g5, g6, g11]
            exact ⟨out', subs, L2, by rw [hV, hNe], rfl, rfl, hsl, hinv'⟩
        clear g g0 g4 g5 g6 g7 g11 g12
        rintro g _ ⟨rfl, g0, g4, g5, g6, g7, g11, g12, hlt'⟩
        have hcn1 : cnt - n = (cnt - (n + 1)) + 1 := by omega
        rw [hcn1, rroundGo] at hinv'
        simp only [] at hinv'
        refine awp_cutA (fun f H' => RRouI H E1 ts P kS (rroundGo (rlayM d) x.name x.low x.body (cnt - (n + 1)) (n + 1)) (n + 1) (f 4) (f 11) H' ∧ f 0 = Sm.sl l ∧ f 5 = tmS (H.length + 1) ts ∧ f 6 = I i ∧ f 7 = .bp k1 0 ∧ f 12 = U (x.low + n)) ?_ ?_
        rotate_left
        · clear g g0 g4 g5 g6 g7 g11 g12
          rintro g H' ⟨ho, g0, g5, g6, g7, g12⟩
          replace ho := Hid.mk ho
          have w4 : IntKind.u64.wrap (x.low + (n : Int) + 1) = x.low + ((n + 1 : Nat) : Int) := by rw [wrapU (by omega) (by omega)]; push_cast; omega
          refine awp_all (fun _ => false) (fun _ => none) (by kernel_rfl) ?_
          simp -dsimp [g0, g5, g6, g7, g12]
          exact ⟨n + 1, by omega, ho.out, w4, by omega⟩
        obtain ⟨rst, hrst⟩ : ∃ rst, rst = rroundGo (rlayM d) x.name x.low x.body (cnt - (n + 1)) (n + 1) := ⟨_, rfl⟩
        rw [← hrst] at hinv' ⊢
        clear hrst
        refine awp_block ?_
        have cp := fun H => rputs_ok x.name (x.low + n) _ x.body (Nat.lt_succ_self _) (by omega) H
        obtain ⟨B, hB⟩ : ∃ B, B = smsPut x.name (x.low + n) x.body := ⟨_, rfl⟩
        have hBc : smsCount B ≤ smsCount x.body := by rw [hB]; exact smsPut_count _ _ _
        have cl := fun H => ih B (by rw [hB, put_high]; omega) (by omega) (by rw [hB, put_fors]; exact hfb) (by rw [hB, put_size _ _ _ _ (Nat.le_refl _)]; exact hszd.2 hk (by omega)) H
        rw [← hB] at cp hinv'
        obtain ⟨Y, hY⟩ : ∃ Y, Y = rlayM d B := ⟨_, rfl⟩
        rw [← hY] at cl hinv'
        have hob' : out'.length + Y.1.length ≤ 65536 := by
          have := congrArg (fun e => e.1.length) hinv'
          simp only [List.length_append] at this
          omega
        refine awp_all (fun d => d == 55 || d == 59) (fun _ => none) (by kernel_rfl) ?_
        simp -dsimp [g0, g4, g5, g6, g7, g11, g12, hVx]
        refine acallsW_det (cp _) ?_
        simp -dsimp
        refine acallsW_det (cl _) ?_
        simp -dsimp [g0, g4, g5, g6, g7, g11, g12]
        refine appendVW_own (k := H.length) (es := out'.map Sm.cells) (by rw [hV, nO]) (by simp; omega) (by simp; omega) ?_
        have ho1 : out'.map Sm.cells ++ Y.1.map Sm.cells = (out' ++ Y.1).map Sm.cells := by simp
        have e1 : V.set H.length (ownB 57 16 ((out' ++ Y.1).map Sm.cells)) = N (out' ++ Y.1) ts (P ++ .row 39 1 (subs.map fun a => [Tm.sl a]) :: L2) := by rw [hV, sO, hNe]
        rw [ho1, e1]
        simp -dsimp [g0, g5, g6, g7, g11, g12]
        refine appendVW_hs (es := subs.map fun a => [Tm.sl a]) (by rw [gS]) (by simp [hsl]) (by simp [hsl]) (by simp; omega) (by simp; omega) ?_
        have hsb : subs.map (fun a => [Tm.sl a]) ++ [[Tm.sl Y.2]] = (subs ++ [Y.2]).map fun a => [Tm.sl a] := by simp
        rw [hsb, sS]
        simp -dsimp [g0, g5, g6, g7, g11, g12]
        refine ⟨out' ++ Y.1, subs ++ [Y.2], L2, by rw [hNe, hsb], by rw [stS, ← ho1], by rw [hsl], by simp [hsl], ?_⟩
        rw [← hinv']
        simp
      clear g g0 g4 g5 g6 g7 g11
      rintro g _ ⟨⟨out', subs, L2, rfl, g4, g11, hsl, hE2⟩, g0, g5, g6⟩
      rw [List.append_nil, List.append_nil, hE1] at hE2
      simp only [Prod.mk.injEq] at hE2
      obtain ⟨rfl, rfl⟩ := hE2
      have hkS2 : kS = H.length + (2 + P.length) := by omega
      refine awp_giveRow hu (2 + P.length) 1 39 (R.2.map fun a => [Tm.sl a]) (by rw [show 2 + P.length = P.length + 1 + 1 from by omega]; simp) (subs_frzB' R.2) ?_
      intro L' f' hf' hLl hLo
      rw [← hkS2] at hf'
      obtain ⟨L1, rfl⟩ : ∃ L1, L' = stB (out ++ R.1) :: tmB ts :: L1 := by
        have e0 := hLo 0 (stB (out ++ R.1)) (by omega) rfl (under_ownB_plain (sms_frzB _))
        have e1 := hLo 1 (tmB ts) (by omega) rfl (under_ownB_plain (tms_frzB ts))
        match L', e0, e1 with
        | a :: b :: L1, e0, e1 =>
          simp only [List.getElem?_cons_zero, List.getElem?_cons_succ, Option.some.injEq] at e0 e1
          subst e0 e1
          exact ⟨L1, rfl⟩
      have f0 : f' 0 = Sm.sl l := by rw [hf', g0]; simp [AV.frz]
      have f4 : f' 4 = stS H.length (out ++ R.1) := by rw [hf', g4]; exact frz_ownS_ne (by omega)
      have f5 : f' 5 = tmS (H.length + 1) ts := by rw [hf', g5]; exact frz_ownS_ne (by omega)
      have f6 : f' 6 = I i := by rw [hf', g6]; simp [AV.frz]
      have f11 : f' 11 = Tm.sls R.2 := by
        rw [hf', g11, ← hsl]
        have : List.take R.2.length (R.2.map fun a => [Tm.sl a]) = R.2.map fun a => [Tm.sl a] := List.take_of_length_le (by simp)
        simp [AV.frz, this]
      rw [← hNe]
      clear hf' g0 g4 g5 g6 g11 hLl hLo
      refine awp_cut (fun d => d == 64) (fun _ => none) (fun f H' => H' = (N (out ++ R.1) ts L1).set (H.length + 1) (ownB 116 4 (ts.map Tm.cells ++ [[I 6, nilS, Bo false, Tm.sls R.2]])) ∧ f 0 = Sm.sl l ∧ f 4 = stS H.length (out ++ R.1) ∧ f 5 = ownS (H.length + 1) (ts.map Tm.cells ++ [[I 6, nilS, Bo false, Tm.sls R.2]]) ∧ f 6 = I i) (by kernel_rfl) ?_ ?_
      · simp -dsimp [f0, f4, f5, f6, f11]
        refine appendVW_own (k := H.length + 1) (es := ts.map Tm.cells) (by rw [nT]) (by simp; omega) (by simp; omega) ?_
        simp -dsimp [f0, f4, f5, f6]
      clear f0 f4 f5 f6 f11 f'
      rintro g _ ⟨rfl, g0, g4, g5, g6⟩
      rw [sT]
      refine awp_weakO (H.length + 1) 116 4 (ts.map Tm.cells ++ [[I 6, nilS, Bo false, Tm.sls R.2]]) ((ts ++ [Tm.mk 6 [] false R.2]).map Tm.cells) (by simp) (by rw [List.map_append]; exact weakR_app (weakR_refl _) (.cons (by rw [Tm.cells_eq]; exact .cons (.refl _) (.cons (.nil 1) (.cons (.refl _) (.cons (.refl _) .nil)))) .nil)) ?_
      have e1 : (H ++ stB (out ++ R.1) :: ownB 116 4 (ts.map Tm.cells ++ [[I 6, nilS, Bo false, Tm.sls R.2]]) :: L1).set (H.length + 1) (ownB 116 4 ((ts ++ [Tm.mk 6 [] false R.2]).map Tm.cells)) = N (out ++ R.1) (ts ++ [Tm.mk 6 [] false R.2]) L1 := by rw [hNe, List.set_append, if_neg (by omega), Nat.add_sub_cancel_left]; rfl
      rw [e1]
      have g5' : g 5 = tmS (H.length + 1) (ts ++ [Tm.mk 6 [] false R.2]) := by rw [g5]; exact ownS_len _ (by simp)
      have hfinal : RLayI H E rest (i + 1) (g 4) (g 5) (N (out ++ R.1) (ts ++ [Tm.mk 6 [] false R.2]) L1) := ⟨out ++ R.1, ts ++ [.mk 6 [] false R.2], L1, hNe _ _ _, g4, g5', by simp [htl], by rw [← hinv]; simp⟩
      replace hfinal := Hid.mk hfinal
      refine awp_all (fun _ => false) (fun _ => none) (by kernel_rfl) ?_
      simp -dsimp [g0, g6]
      exact hfinal.out
    rw [if_neg hk] at hinv
    obtain ⟨hs1, hs2⟩ := hszd.1 hk
    refine awp_condF (by kernel_rfl) (by show g 32 = _; rw [g32]; simp [hk]) ?_
    have c1 := fun H => ih x.body (by omega) (by omega) hfb hs1 H
    have c2 := fun H => ih x.els (by omega) (by omega) hfe hs2 H
    have hWc : ∀ a b, (x.withB a b).cells = [I x.kind, St x.name, St.sl x.names, I x.e.op, U x.e.word, St x.e.name, Ex.sl x.e.args, I x.a.op, U x.a.word, St x.a.name, Ex.sl x.a.args, Ex.sl x.args, U x.low, U x.high, Sm.sl a, Sm.sl b] := fun a b => by rw [Sm.cells_eq]; rfl
    have hX0 : bX = .box 57 (x.withB x.body x.els).cells := by rw [hWc, hbX]
    have done : ∀ raw tm a b, WeakL raw (Tm.cells tm) → (out ++ x.withB a b :: rest.1, ts ++ tm :: rest.2) = E → RStep H E rest out ts L bX (ownS (H.length + 1) (ts.map Tm.cells ++ [raw])) ((N out ts (L ++ [bX, .box 57 (x.withB a b).cells])).set (H.length + 1) (ownB 116 4 (ts.map Tm.cells ++ [raw]))) := fun raw tm a b h1 h2 => ⟨raw, tm, _, sT _ _ _ _, rfl, h1, h2⟩
    simp only [hWc] at done
    refine awp_cut (fun _ => false) (fun _ => none) (fun f H' => H' = N out ts (L ++ [bX, bO]) ∧ f 0 = Sm.sl l ∧ f 4 = stS H.length out ∧ f 5 = tmS (H.length + 1) ts ∧ f 6 = I i ∧ f 7 = .bp k1 0 ∧ f 8 = .bp k2 0 ∧ f 27 = I x.kind ∧ f 65 = Bo (x.kind == 3)) (by kernel_rfl) ?_ ?_
    · simp -dsimp [g0, g4, g5, g6, g7, g8, g27]
    clear g g0 g4 g5 g6 g7 g8 g27 g32
    rintro g _ ⟨rfl, g0, g4, g5, g6, g7, g8, g27, g65⟩
    obtain ⟨A, hA⟩ : ∃ A, A = rlayM d x.body := ⟨_, rfl⟩
    obtain ⟨B, hB⟩ : ∃ B, B = rlayM d x.els := ⟨_, rfl⟩
    rw [← hA] at c1 hinv
    rw [← hB] at c2 hinv
    have gY2 := gY out ts
    have gO : (N out ts (L ++ [bX, bO]))[k2]? = some (.box 57 [I x.kind, St x.name, St.sl x.names, I x.e.op, U x.e.word, St x.e.name, Ex.sl x.e.args, I x.a.op, U x.a.word, St x.a.name, Ex.sl x.a.args, Ex.sl x.args, U x.low, U x.high, Sm.sl x.body, Sm.sl x.els]) := by rw [gY2, hbO]
    have sY2 := sY out ts
    have gX2 := fun y => gX out ts [y]
    by_cases k3 : x.kind = 3
    · rw [if_pos k3] at hinv
      refine awp_condT (by kernel_rfl) (by show g 65 = _; rw [g65]; simp [k3]) ?_
      refine awp_all (fun d => d == 87) (fun _ => none) (by kernel_rfl) ?_
      have hd := done [I 3, nilS, Bo false, .vs 1 [[Tm.sl A.2], [Tm.sl B.2]]] (.mk 3 [] false [A.2, B.2]) A.1 B.1 (by rw [Tm.cells_eq]; exact .cons (.refl _) (.cons (.nil 1) (.cons (.refl _) (.cons (.refl _) .nil)))) hinv
      replace hd := Hid.mk hd
      simp -dsimp [g0, g4, g5, g6, g7, g8, g27, gX2]
      refine acallsW_det (c1 _) ?_
      simp -dsimp [g0, g4, g5, g6, g7, g8, g27, gX2, gO, gY2, sY2]
      refine acallsW_det (c2 _) ?_
      simp -dsimp [g0, g4, g5, g6, g7, g8, g27, gX2, gY2, sY2]
      refine appendVW_own (k := H.length + 1) (es := ts.map Tm.cells) (by rw [nT]) (by simp; omega) (by simp; omega) ?_
      simp -dsimp [g0, g4, g5, g6, g7, g8]
      exact hd.out
    rw [if_neg k3] at hinv
    refine awp_condF (by kernel_rfl) (by show g 65 = _; rw [g65]; simp [k3]) ?_
    refine awp_cut (fun _ => false) (fun _ => none) (fun f H' => H' = N out ts (L ++ [bX, bO]) ∧ f 0 = Sm.sl l ∧ f 4 = stS H.length out ∧ f 5 = tmS (H.length + 1) ts ∧ f 6 = I i ∧ f 7 = .bp k1 0 ∧ f 8 = .bp k2 0 ∧ f 88 = Bo (x.kind == 4)) (by kernel_rfl) ?_ ?_
    · simp -dsimp [g0, g4, g5, g6, g7, g8, g27]
    clear g g0 g4 g5 g6 g7 g8 g27 g65
    rintro g _ ⟨rfl, g0, g4, g5, g6, g7, g8, g88⟩
    by_cases k4 : x.kind = 4
    · rw [if_pos k4] at hinv
      refine awp_condT (by kernel_rfl) (by show g 88 = _; rw [g88]; simp [k4]) ?_
      refine awp_all (fun d => d == 102) (fun _ => none) (by kernel_rfl) ?_
      have hd := done [I 5, nilS, Bo false, .vs 1 [[Tm.sl A.2]]] (.mk 5 [] false [A.2]) A.1 x.els (by rw [Tm.cells_eq]; exact .cons (.refl _) (.cons (.nil 1) (.cons (.refl _) (.cons (.refl _) .nil)))) hinv
      replace hd := Hid.mk hd
      simp -dsimp [g0, g4, g5, g6, g7, g8, gX2]
      refine acallsW_det (c1 _) ?_
      simp -dsimp [g0, g4, g5, g6, g7, g8, gX2, gO, gY2, sY2]
      refine appendVW_own (k := H.length + 1) (es := ts.map Tm.cells) (by rw [nT]) (by simp; omega) (by simp; omega) ?_
      simp -dsimp [g0, g4, g5, g6, g7, g8]
      exact hd.out
    rw [if_neg k4] at hinv
    refine awp_condF (by kernel_rfl) (by show g 88 = _; rw [g88]; simp [k4]) ?_
    refine awp_all (fun d => d == 31) (fun _ => none) (by kernel_rfl) ?_
    have hw0 : x.withB x.body x.els = x := by cases x; rfl
    have hd := done [I 1, nilS, Bo false, nilS] (.mk 1 [] false []) x.body x.els (by rw [Tm.cells_eq]; exact .cons (.refl _) (.cons (.nil 1) (.cons (.refl _) (.cons (.nil 1) .nil)))) (by rw [hw0]; exact hinv)
    rw [← hbO] at hd
    replace hd := Hid.mk hd
    simp -dsimp [g0, g4, g5, g6, g7, g8]
    refine appendVW_own (k := H.length + 1) (es := ts.map Tm.cells) (by rw [nT]) (by simp; omega) (by simp; omega) ?_
    simp -dsimp [g0, g4, g5, g6, g7, g8]
    exact hd.out
end Go.Proofs
namespace Go.Proofs
open Go.Mu
theorem layE_same {l : List Sm} (hf : smsFors l = true) (hs : smsShapes l = true) : layE l = if smsSizeI l ≤ 65536 then ((rlayM (smsHigh l + 1) l).1, (rlayM (smsHigh l + 1) l).2, 0) else ([], [], 13) := by
  have h := layM_size (smsHigh l + 1) l (Nat.lt_succ_self _) hf 65536 (by omega)
  by_cases hz : smsSizeI l ≤ 65536
  · obtain ⟨b, t, e⟩ := h.1 hz
    rw [if_pos hz]
    unfold layE
    rw [e, layM_same _ _ _ _ _ _ hs e]
  · rw [if_neg hz]
    unfold layE
    rw [h.2 (by omega)]
theorem funcs_one_num (b : List Sm) (f : Fc) : funcsNum [{ f with body := b }] ≤ smsCount b := by
  have := smsNum_le _ b 1 (Nat.le_refl _)
  simp only [funcsNum]
  omega
theorem rprog_ok (p : Pg) (hp : p.OkA) (H : List Blk) : ACalls Tryz.prog 17 [.agg p.cells] H (fun e H' => e = .ret (.tup [.agg (unrollE p).1.cells, Tm.sl (unrollE p).2.1, I (unrollE p).2.2]) ∧ H' = H) := by
  refine acalls_tidy (acalls_weakE (acalls_of_awp Tryz.func17 rfl (by kernel_rfl) ?_))
  obtain ⟨E, hE⟩ : ∃ E, E = unrollE p := ⟨_, rfl⟩
  rw [← hE]
  unfold unrollE at hE
  obtain ⟨bz, hbz⟩ : ∃ bz, bz = Blk.box 25 [nilS, nilS] := ⟨_, rfl⟩
  have finZ : ∀ e L, E = (Pg.nil, [], e) → WeakE (Tidy H fun x H' => x = AE.ret (.tup [.agg E.1.cells, Tm.sl E.2.1, I E.2.2]) ∧ H' = H) (.ret (.tup [.agg [nilS, nilS], nilS, I e])) (H ++ L) := fun e L h => by
    rw [h]
    refine tidy_weak (r' := .tup [.agg [Rg.sl [], Fc.sl []], Tm.sl [], I e]) (.tupL (.cons (.aggL (.cons (.nil 4) (.cons (.nil 5) .nil))) (.cons (.nil 4) (.cons (.refl _) .nil)))) ?_
    exact tidy_same rfl ⟨rfl, rfl⟩
  refine awp_cut (fun _ => false) (fun _ => none) (fun f H' => H' = H ++ [.box 25 p.cells, bz] ∧ f 1 = .bp H.length 0 ∧ f 2 = .bp (H.length + 1) 0) (by kernel_rfl) ?_ ?_
  · rw [hbz]
    simp -dsimp
  rintro g _ ⟨rfl, g1, g2⟩
  obtain ⟨V, hV⟩ : ∃ V, V = H ++ [.box 25 p.cells, bz] := ⟨_, rfl⟩
  have hV0 : V[H.length]? = some (.box 25 [Rg.sl p.regions, Fc.sl p.funcs]) := by rw [hV]; simp
  have hV1 : V[H.length + 1]? = some (.box 25 [nilS, nilS]) := by rw [hV, hbz]; simp
  have hVs : V.set (H.length + 1) (.box 25 [nilS, nilS]) = V := by rw [hV, hbz]; simp
  have hVH : ∀ L, ∃ L', V ++ L = H ++ L' := fun L => ⟨_, by rw [hV, List.append_assoc]⟩
  have finZ' : ∀ e L, E = (Pg.nil, [], e) → WeakE (Tidy H fun x H' => x = AE.ret (.tup [.agg E.1.cells, Tm.sl E.2.1, I E.2.2]) ∧ H' = H) (.ret (.tup [.agg [nilS, nilS], nilS, I e])) (V ++ L) := fun e L h => by obtain ⟨L', h'⟩ := hVH L; rw [h']; exact finZ e _ h
  have finZ0 : ∀ e, E = (Pg.nil, [], e) → WeakE (Tidy H fun x H' => x = AE.ret (.tup [.agg E.1.cells, Tm.sl E.2.1, I E.2.2]) ∧ H' = H) (.ret (.tup [.agg [nilS, nilS], nilS, I e])) V := fun e h => by have := finZ' e [] h; rwa [List.append_nil] at this
  rw [← hV]
  have cm := fun H => rmay_ok p hp.ok3 H
  have cf := fun H => rform_ok p hp.ok3.ok.ok.body (fun f hf => by have := hp.okl.okc.vars f hf; omega) hp.ok3.ok.ok.funcs hp.ok3.ok.ok.regions H
  simp only [Pg.cells] at cm cf
  refine awp_cut (fun _ => false) (fun _ => none) (fun f H' => V = H' ∧ f 1 = .bp H.length 0 ∧ f 2 = .bp (H.length + 1) 0 ∧ mayE p = 0) (by kernel_rfl) ?_ ?_
  · simp -dsimp [g1, g2, hV0]
    refine acallsW_det (cm _) ?_
    simp -dsimp
    refine condVW_introNE (fun h1 h1a h1b => ?_) (fun h1 => ?_)
    · rw [if_neg h1] at hE
      simp -dsimp [g1, g2, hV1, hVs]
      exact finZ0 _ hE
    · simp -dsimp [g1, g2]
      exact h1
  clear g g1 g2
  rintro g _ ⟨rfl, g1, g2, hm⟩
  rw [if_pos hm] at hE
  refine awp_cut (fun _ => false) (fun _ => none) (fun f H' => V = H' ∧ f 1 = .bp H.length 0 ∧ f 2 = .bp (H.length + 1) 0 ∧ (formT p).calls = false) (by kernel_rfl) ?_ ?_
  · obtain ⟨ca, fo, ar, st, hT⟩ : ∃ a b c d, (⟨a, b, c, d⟩ : Fo) = formT p := ⟨_, _, _, _, rfl⟩
    have hTc : (formT p).calls = ca := by rw [← hT]
    rw [← hT] at cf
    rw [hTc] at hE ⊢
    simp only [Fo.cells] at cf
    simp -dsimp [g1, g2, hV0]
    refine acallsW_det (cf _) ?_
    cases ca
    · simp -dsimp [g1, g2]
    · rw [if_pos rfl] at hE
      simp -dsimp [g1, g2, hV1, hVs]
      exact finZ0 _ hE
  clear g g1 g2
  rintro g _ ⟨rfl, g1, g2, hc⟩
  rw [hc, if_neg (by decide)] at hE
  have hone := nocalls_one hm hc
  have hmem : lastF p ∈ p.funcs := by rw [hone]; exact List.mem_singleton.2 rfl
  have h0 : p.funcs[0]? = some (lastF p) := by rw [hone]; rfl
  have hc36 := hp.okl.okc.body _ hmem
  obtain ⟨hfo, hsh⟩ := may_shape hm hp.okl.oku.words _ hmem
  have hles := layE_same hfo hsh
  have hout := hp.okl.out _ hmem
  have hok2 := fun b (hb : smsCount b ≤ 2^36) => withBody_ok2 hp.ok3.ok hmem hb
  have hwb : ∀ b, p.withBody b = ⟨p.regions, [{ lastF p with body := b }]⟩ := fun b => rfl
  obtain ⟨F, hF⟩ : ∃ F, F = lastF p := ⟨_, rfl⟩
  rw [← hF] at h0 hc36 hfo hsh hles hout hwb hE
  have cr := fun H => rrounds_ok _ F.body (Nat.lt_succ_self _) hc36 hfo H
  have cz := fun H => rsize11_ok 65536 (by omega) (by omega) _ F.body (Nat.lt_succ_self _) hc36 hfo H
  obtain ⟨Z, hZ⟩ : ∃ Z, Z = min (smsSizeI F.body) (65536 + 1) := ⟨_, rfl⟩
  rw [← hZ] at cz
  obtain ⟨bF, hbF⟩ : ∃ bF, bF = Blk.box 37 [St F.name, Vr.sl F.params, Vr.sl F.vars, St.sl F.rets, Sm.sl F.body] := ⟨_, rfl⟩
  refine awp_cut (fun _ => false) (fun _ => none) (fun f H' => H' = V ++ [bF] ∧ f 1 = .bp H.length 0 ∧ f 2 = .bp (H.length + 1) 0 ∧ f 6 = .bp V.length 0) (by kernel_rfl) ?_ ?_
  · rw [hbF]
    simp -dsimp [g1, g2, hV0, h0]
  clear g g1 g2
  rintro g _ ⟨rfl, g1, g2, g6⟩
  have hg0 : ∀ L, (V ++ L)[H.length]? = some (.box 25 [Rg.sl p.regions, Fc.sl p.funcs]) := fun L => get_app_old hV0 L
  have hg1 : ∀ L, (V ++ L)[H.length + 1]? = some (.box 25 [nilS, nilS]) := fun L => get_app_old hV1 L
  have hsz1 : ∀ L, (V ++ L).set (H.length + 1) (.box 25 [nilS, nilS]) = V ++ L := fun L => by rw [List.set_append, if_pos (lt_of_get hV1), hVs]
  have hgF : ∀ L, (V ++ bF :: L)[V.length]? = some (.box 37 [St F.name, Vr.sl F.params, Vr.sl F.vars, St.sl F.rets, Sm.sl F.body]) := fun L => by rw [← hbF]; simp
  refine awp_cut (fun _ => false) (fun _ => none) (fun f H' => H' = V ++ [bF] ∧ f 1 = .bp H.length 0 ∧ f 2 = .bp (H.length + 1) 0 ∧ f 6 = .bp V.length 0 ∧ ¬ 65536 < smsRounds F.body ∧ smsSizeI F.body ≤ 65536) (by kernel_rfl) ?_ ?_
  · by_cases hr : 65536 < smsRounds F.body
    · rw [if_pos hr] at hE
      simp -dsimp [g1, g2, g6, hbF]
      refine acallsW_det (cr _) ?_
      simp -dsimp [g1, g2, g6, hr, hg1, hsz1, hbF]
      exact finZ' _ _ hE
    · rw [if_neg hr] at hE
      simp -dsimp [g1, g2, g6, hbF]
      refine acallsW_det (cr _) ?_
      simp -dsimp [g1, g2, g6, hr, hbF]
      refine acallsW_det (cz _) ?_
      by_cases hz : smsSizeI F.body ≤ 65536
      · have hz2 : ¬ (65536 : Int) < Z := by omega
        simp -dsimp [g1, g2, g6, hz2, hr, hz, hbF]
        omega
      · have hz2 : (65536 : Int) < Z := by omega
        rw [hles, if_neg hz, if_neg (by decide)] at hE
        simp -dsimp [g1, g2, g6, hz2, hg1, hsz1]
        exact finZ' _ _ hE
  clear g g1 g2 g6 cz cr
  rintro g _ ⟨rfl, g1, g2, g6, hr, hz⟩
  rw [if_neg hr] at hE
  obtain ⟨b, tm, hB⟩ : ∃ b tm, rlayM (smsHigh F.body + 1) F.body = (b, tm) := ⟨_, _, rfl⟩
  have hles2 : layE F.body = (b, tm, 0) := by rw [hles, if_pos hz, hB]
  rw [hles2] at hE hout
  simp only [] at hE hout
  rw [if_pos trivial] at hE
  have cl := fun H => rlay_ok _ F.body (Nat.lt_succ_self _) hc36 hfo hz H
  rw [hB] at cl
  simp only [] at cl
  refine awp_cut (fun _ => false) (fun _ => none) (fun f H' => H' = V ++ [bF] ∧ f 1 = .bp H.length 0 ∧ f 2 = .bp (H.length + 1) 0 ∧ f 6 = .bp V.length 0 ∧ f 7 = Sm.sl b ∧ f 8 = Tm.sl tm) (by kernel_rfl) ?_ ?_
  · simp -dsimp [g1, g2, g6, hbF]
    refine acallsW_det (cl _) ?_
    simp -dsimp [g1, g2, g6]
  clear g g1 g2 g6
  rintro g _ ⟨rfl, g1, g2, g6, g7, g8⟩
  obtain ⟨bG, hbG⟩ : ∃ bG, bG = Blk.box 37 [St F.name, Vr.sl F.params, Vr.sl F.vars, St.sl F.rets, Sm.sl b] := ⟨_, rfl⟩
  refine awp_cut (fun _ => false) (fun _ => none) (fun f H' => H' = V ++ [bG] ∧ f 1 = .bp H.length 0 ∧ f 2 = .bp (H.length + 1) 0 ∧ f 6 = .bp V.length 0 ∧ f 8 = Tm.sl tm) (by kernel_rfl) ?_ ?_
  · have hsF : ∀ X, (V ++ [bF]).set V.length X = V ++ [X] := fun X => by simp
    simp -dsimp [g1, g2, g6, g7, g8, hbF, hbG]
  clear g g1 g2 g6 g7 g8
  rintro g _ ⟨rfl, g1, g2, g6, g8⟩
  have hgG : ∀ L, (V ++ bG :: L)[V.length]? = some (.box 37 [St F.name, Vr.sl F.params, Vr.sl F.vars, St.sl F.rets, Sm.sl b]) := fun L => by rw [← hbG]; simp
  obtain ⟨Q, hQ⟩ : ∃ Q, Q = p.withBody b := ⟨_, rfl⟩
  rw [← hQ] at hE
  have hQc : Q.cells = [Rg.sl p.regions, Fc.sl [{ F with body := b }]] := by rw [hQ, hwb]; rfl
  obtain ⟨bQ, hbQ⟩ : ∃ bQ, bQ = Blk.box 25 Q.cells := ⟨_, rfl⟩
  rw [hQc] at hbQ
  refine awp_cut (fun _ => false) (fun _ => none) (fun f H' => H' = V ++ [bG] ++ [bQ] ∧ f 1 = .bp H.length 0 ∧ f 2 = .bp (H.length + 1) 0 ∧ f 8 = Tm.sl tm ∧ f 9 = .bp (V ++ [bG]).length 0) (by kernel_rfl) ?_ ?_
  · obtain ⟨W, hW⟩ : ∃ W, W = V ++ [bG] := ⟨_, rfl⟩
    have w0 := hg0 [bG]
    have wG := hgG []
    rw [← hW] at w0 wG ⊢
    simp -dsimp [g1, g2, g6, g8, w0, wG, hbQ]
  clear g g1 g2 g6 g8
  obtain ⟨kq, hkq⟩ : ∃ kq, kq = (V ++ [bG]).length := ⟨_, rfl⟩
  rw [← hkq]
  rintro g _ ⟨rfl, g1, g2, g8, g9⟩
  have cq := fun H => rmay_ok Q ⟨by rw [hQ]; exact hok2 b hout, by rw [hQ, hwb]; have := funcs_one_num b F; show funcsNum [{ F with body := b }] ≤ _; omega⟩ H
  simp only [Pg.cells] at cq
  obtain ⟨X, hX⟩ : ∃ X, X = V ++ [bG] ++ [bQ] := ⟨_, rfl⟩
  have x9 : X[kq]? = some (.box 25 [Rg.sl Q.regions, Fc.sl Q.funcs]) := by
    have : bQ = Blk.box 25 [Rg.sl Q.regions, Fc.sl Q.funcs] := by rw [hbQ]; rw [← hQc]; rfl
    rw [hX, hkq, ← this]; simp
  have x1 : X[H.length + 1]? = some (.box 25 [nilS, nilS]) := by rw [hX, List.append_assoc]; exact hg1 _
  have xz : X.set (H.length + 1) (.box 25 [nilS, nilS]) = X := by rw [hX, List.append_assoc]; exact hsz1 _
  have xq : ∀ Y, ∃ L', X.set (H.length + 1) Y = H ++ L' := fun Y => by
    rw [hX, hV]; exact ⟨_, by rw [List.append_assoc, List.append_assoc, List.set_append, if_neg (by omega)]⟩
  have xv : ∃ L, X = V ++ L := ⟨_, by rw [hX, List.append_assoc]⟩
  rw [← hX]
  refine awp_cut (fun _ => false) (fun _ => none) (fun f H' => X = H' ∧ f 2 = .bp (H.length + 1) 0 ∧ f 8 = Tm.sl tm ∧ f 9 = .bp kq 0 ∧ mayE Q = 0) (by kernel_rfl) ?_ ?_
  · simp -dsimp [g1, g2, g8, g9, x9]
    refine acallsW_det (cq _) ?_
    simp -dsimp
    refine condVW_introNE (fun h1 h1a h1b => ?_) (fun h1 => ?_)
    · rw [if_neg h1] at hE
      simp -dsimp [g2, x1, xz]
      obtain ⟨L, hL⟩ := xv
      rw [hL]
      exact finZ' _ _ hE
    · simp -dsimp [g2, g8, g9]
      exact h1
  clear g g1 g2 g8 g9
  rintro g _ ⟨rfl, g2, g8, g9, hmq⟩
  rw [if_pos hmq] at hE
  refine awp_all (fun _ => false) (fun _ => none) (by kernel_rfl) ?_
  have xg : ∀ Y, (X.set (H.length + 1) Y)[H.length + 1]? = some Y := fun Y => List.getElem?_set_self (lt_of_get x1)
  simp -dsimp [g2, g8, g9, x9, x1, xg]
  obtain ⟨L', hL'⟩ := xq (.box 25 [Rg.sl Q.regions, Fc.sl Q.funcs])
  rw [hL', hE]
  exact tidy_weak (.refl _) (tidy_same rfl ⟨rfl, rfl⟩)
end Go.Proofs
