/- The same programs, by the program. -/
import Derived.Test.YtpibcbilkpoomaaGreatFwXtoLR
import Derived.Test.YtpibcbilkpoomaaGreatU12toFO16
import Derived.Test.YtpibcbilkpoomaaGreatFwRgtoFO6
set_option linter.unusedVariables false
set_option linter.unusedSimpArgs false
set_option maxHeartbeats 4000000
set_option maxRecDepth 100000
namespace Go.Proofs
open Go.Mu
theorem eqst_ok (a b : List ByteArray) (ha : a.length ≤ 2^40) (hb : b.length ≤ 2^40) (H : List Blk) : ACalls Tryz.prog 76 [St.sl a, St.sl b] H (fun e H' => e = .ret (Bo (decide (a = b))) ∧ H' = H) := by
  refine acalls_tidy (acalls_of_vc (hn := fun _ => false) (od := fun _ => none) Tryz.func76 rfl (by kernel_rfl) ?_)
  obtain ⟨E, hE⟩ : ∃ E, E = decide (a = b) := ⟨_, rfl⟩
  rw [← hE]
  have fin0 : ∀ (b : Bool), b = E → Tidy H (fun e H' => e = .ret (Bo E) ∧ H' = H) (.ret (Bo b)) H := fun b h => by rw [h]; exact tidy_now rfl ⟨rfl, rfl⟩
  simp -dsimp
  refine condVW_introNE (fun h1 h1a h1b => ?_) (fun h1 => ?_)
  · simp -dsimp
    exact fin0 _ (by rw [hE, eq_comm]; exact decide_eq_false (fun h => h1 (by rw [h])))
  have hl : a.length = b.length := by omega
  simp -dsimp
  refine loop_rule (hn := fun _ => false) (od := fun _ => none) (fun (i : Nat) f H' => H = H' ∧ f 0 = St.sl a ∧ f 1 = St.sl b ∧ f 12 = I a.length ∧ f 13 = I i ∧ i ≤ a.length ∧ E = decide (a.drop i = b.drop i)) (fun i => a.length - i) (by kernel_rfl) 0 (by simp [hl]; simp [hE]) ?_
  rintro i f _ ⟨rfl, h0, h1', h12, h13, hi, hinv⟩
  simp -dsimp [h0, h1', h12, h13]
  refine condVW_introD (fun hlt => ?_) (fun hlt => ?_)
  · have hltb : i < b.length := by omega
    rw [drop_cons hlt, drop_cons hltb] at hinv
    have e1 := List.getElem?_eq_getElem hlt
    have e2 := List.getElem?_eq_getElem hltb
    obtain ⟨x, hx⟩ : ∃ x, x = a[i] := ⟨_, rfl⟩
    obtain ⟨y, hy⟩ : ∃ y, y = b[i] := ⟨_, rfl⟩
    rw [← hx] at hinv e1
    rw [← hy] at hinv e2
    clear hx hy
    simp -dsimp [h0, h1', h12, h13, e1, e2]
    refine condVW_introND (fun h1 => ?_) (fun h1 => ?_)
    · simp -dsimp
      exact fin0 _ (by rw [hinv]; simp [h1])
    · subst h1
      simp -dsimp [h0, h1', h12, h13]
      exact ⟨i + 1, by omega, wrapS (by omega), by omega, by rw [hinv]; simp⟩
  · have h1 : a.drop i = [] := List.drop_eq_nil_of_le (by omega)
    have h2 : b.drop i = [] := List.drop_eq_nil_of_le (by omega)
    rw [h1, h2] at hinv
    simp -dsimp
    exact fin0 _ hinv.symm
theorem eqvr_ok (a b : List Vr) (ha : a.length ≤ 2^40) (hb : b.length ≤ 2^40) (H : List Blk) : ACalls Tryz.prog 75 [Vr.sl a, Vr.sl b] H (fun e H' => e = .ret (Bo (decide (a = b))) ∧ H' = H) := by
  refine acalls_tidy (acalls_of_vc (hn := fun _ => false) (od := fun _ => none) Tryz.func75 rfl (by kernel_rfl) ?_)
  obtain ⟨E, hE⟩ : ∃ E, E = decide (a = b) := ⟨_, rfl⟩
  rw [← hE]
  have fin0 : ∀ (b : Bool), b = E → Tidy H (fun e H' => e = .ret (Bo E) ∧ H' = H) (.ret (Bo b)) H := fun b h => by rw [h]; exact tidy_now rfl ⟨rfl, rfl⟩
  simp -dsimp
  refine condVW_introNE (fun h1 h1a h1b => ?_) (fun h1 => ?_)
  · simp -dsimp
    exact fin0 _ (by rw [hE, eq_comm]; exact decide_eq_false (fun h => h1 (by rw [h])))
  have hl : a.length = b.length := by omega
  simp -dsimp
  refine loop_rule (hn := fun _ => false) (od := fun _ => none) (fun (i : Nat) f H' => H = H' ∧ f 0 = Vr.sl a ∧ f 1 = Vr.sl b ∧ f 12 = I a.length ∧ f 13 = I i ∧ i ≤ a.length ∧ E = decide (a.drop i = b.drop i)) (fun i => a.length - i) (by kernel_rfl) 0 (by simp [hl]; simp [hE]) ?_
  rintro i f _ ⟨rfl, h0, h1', h12, h13, hi, hinv⟩
  simp -dsimp [h0, h1', h12, h13]
  refine condVW_introD (fun hlt => ?_) (fun hlt => ?_)
  · have hltb : i < b.length := by omega
    rw [drop_cons hlt, drop_cons hltb] at hinv
    have e1 := List.getElem?_eq_getElem hlt
    have e2 := List.getElem?_eq_getElem hltb
    obtain ⟨x, hx⟩ : ∃ x, x = a[i] := ⟨_, rfl⟩
    obtain ⟨y, hy⟩ : ∃ y, y = b[i] := ⟨_, rfl⟩
    rw [← hx] at hinv e1
    rw [← hy] at hinv e2
    clear hx hy
    obtain ⟨x0, x1, x2, x3⟩ := x
    obtain ⟨y0, y1, y2, y3⟩ := y
    by_cases hxy : x0 = y0 ∧ x1 = y1 ∧ x2 = y2 ∧ x3 = y3
    · obtain ⟨rfl, rfl, rfl, rfl⟩ := hxy
      simp -dsimp [h0, h1', h12, h13, e1, e2]
      exact ⟨i + 1, by omega, wrapS (by omega), by omega, by rw [hinv]; simp⟩
    · have hbb : (!decide (x0 = y0) || (!x1 == y1 || (!x2 == y2 || !x3 == y3))) = true := by
        by_cases p0 : x0 = y0
        · by_cases p1 : x1 = y1
          · by_cases p2 : x2 = y2
            · by_cases p3 : x3 = y3
              · exact absurd ⟨p0, p1, p2, p3⟩ hxy
              · simp [p3]
            · simp [p2]
          · simp [p1]
        · simp [p0]
      simp -dsimp [h0, h1', h12, h13, e1, e2, hbb]
      exact fin0 _ (by rw [hinv]; simp; intro a b c d; exact absurd ⟨a, b, c, d⟩ hxy)
  · have h1 : a.drop i = [] := List.drop_eq_nil_of_le (by omega)
    have h2 : b.drop i = [] := List.drop_eq_nil_of_le (by omega)
    rw [h1, h2] at hinv
    simp -dsimp
    exact fin0 _ hinv.symm
theorem eqrg_ok (a b : List Rg) (ha : a.length ≤ 2^40) (hb : b.length ≤ 2^40) (H : List Blk) : ACalls Tryz.prog 72 [Rg.sl a, Rg.sl b] H (fun e H' => e = .ret (Bo (decide (a = b))) ∧ H' = H) := by
  refine acalls_tidy (acalls_of_vc (hn := fun _ => false) (od := fun _ => none) Tryz.func72 rfl (by kernel_rfl) ?_)
  obtain ⟨E, hE⟩ : ∃ E, E = decide (a = b) := ⟨_, rfl⟩
  rw [← hE]
  have fin0 : ∀ (b : Bool), b = E → Tidy H (fun e H' => e = .ret (Bo E) ∧ H' = H) (.ret (Bo b)) H := fun b h => by rw [h]; exact tidy_now rfl ⟨rfl, rfl⟩
  simp -dsimp
  refine condVW_introNE (fun h1 h1a h1b => ?_) (fun h1 => ?_)
  · simp -dsimp
    exact fin0 _ (by rw [hE, eq_comm]; exact decide_eq_false (fun h => h1 (by rw [h])))
  have hl : a.length = b.length := by omega
  simp -dsimp
  refine loop_rule (hn := fun _ => false) (od := fun _ => none) (fun (i : Nat) f H' => H = H' ∧ f 0 = Rg.sl a ∧ f 1 = Rg.sl b ∧ f 12 = I a.length ∧ f 13 = I i ∧ i ≤ a.length ∧ E = decide (a.drop i = b.drop i)) (fun i => a.length - i) (by kernel_rfl) 0 (by simp [hl]; simp [hE]) ?_
  rintro i f _ ⟨rfl, h0, h1', h12, h13, hi, hinv⟩
  simp -dsimp [h0, h1', h12, h13]
  refine condVW_introD (fun hlt => ?_) (fun hlt => ?_)
  · have hltb : i < b.length := by omega
    rw [drop_cons hlt, drop_cons hltb] at hinv
    have e1 := List.getElem?_eq_getElem hlt
    have e2 := List.getElem?_eq_getElem hltb
    obtain ⟨x, hx⟩ : ∃ x, x = a[i] := ⟨_, rfl⟩
    obtain ⟨y, hy⟩ : ∃ y, y = b[i] := ⟨_, rfl⟩
    rw [← hx] at hinv e1
    rw [← hy] at hinv e2
    clear hx hy
    obtain ⟨x0, x1, x2, x3⟩ := x
    obtain ⟨y0, y1, y2, y3⟩ := y
    by_cases hxy : x0 = y0 ∧ x1 = y1 ∧ x2 = y2 ∧ x3 = y3
    · obtain ⟨rfl, rfl, rfl, rfl⟩ := hxy
      simp -dsimp [h0, h1', h12, h13, e1, e2]
      exact ⟨i + 1, by omega, wrapS (by omega), by omega, by rw [hinv]; simp⟩
    · have hbb : (!decide (x0 = y0) || (!x1 == y1 || (!x2 == y2 || !x3 == y3))) = true := by
        by_cases p0 : x0 = y0
        · by_cases p1 : x1 = y1
          · by_cases p2 : x2 = y2
            · by_cases p3 : x3 = y3
              · exact absurd ⟨p0, p1, p2, p3⟩ hxy
              · simp [p3]
            · simp [p2]
          · simp [p1]
        · simp [p0]
      simp -dsimp [h0, h1', h12, h13, e1, e2, hbb]
      exact fin0 _ (by rw [hinv]; simp; intro a b c d; exact absurd ⟨a, b, c, d⟩ hxy)
  · have h1 : a.drop i = [] := List.drop_eq_nil_of_le (by omega)
    have h2 : b.drop i = [] := List.drop_eq_nil_of_le (by omega)
    rw [h1, h2] at hinv
    simp -dsimp
    exact fin0 _ hinv.symm
theorem eqfE_ok (a b : List Ex) (g : FuncId) (hok : okFn Tryz.prog g = true) (ha : a.length ≤ 2^40) (hb : b.length ≤ 2^40) (hg : ∀ (i : Nat) x y, a[i]? = some x → b[i]? = some y → ∀ H, ACalls Tryz.prog g [.agg x.cells, .agg y.cells] H (fun e H' => e = .ret (Bo (x.eqB y)) ∧ H' = H)) (H : List Blk) :
    ACalls Tryz.prog 117 [Ex.sl a, Ex.sl b, .fn (.func g) [] []] H (fun e H' => e = .ret (Bo (exsEq a b)) ∧ H' = H) := by
  refine acalls_tidy (acalls_of_vc (hn := fun _ => false) (od := fun _ => none) Tryz.func117 rfl (by kernel_rfl) ?_)
  obtain ⟨E, hE⟩ : ∃ E, E = exsEq a b := ⟨_, rfl⟩
  rw [← hE]
  have fin : ∀ b L, b = E → Tidy H (fun e H' => e = .ret (Bo E) ∧ H' = H) (.ret (Bo b)) (H ++ L) := fun b L h => by rw [h]; exact tidy_same rfl ⟨rfl, rfl⟩
  have fin0 : ∀ (b : Bool), b = E → Tidy H (fun e H' => e = .ret (Bo E) ∧ H' = H) (.ret (Bo b)) H := fun b h => by rw [h]; exact tidy_now rfl ⟨rfl, rfl⟩
  have hlen : exsEq a b = true → a.length = b.length := fun h => exsEq_len h
  simp -dsimp
  refine condVW_introNE (fun h1 h1a h1b => ?_) (fun h1 => ?_)
  · simp -dsimp
    exact fin0 _ (by rw [hE]; cases hh : exsEq a b; rfl; exact absurd (by rw [hlen hh]) h1)
  have hl : a.length = b.length := by omega
  simp -dsimp
  refine loop_rule (hn := fun _ => false) (od := fun _ => none) (fun (i : Nat) f H' => (∃ L, H' = H ++ L) ∧ f 1 = Ex.sl b ∧ f 2 = .fn (.func g) [] [] ∧ f 15 = Ex.sl a ∧ f 16 = I a.length ∧ f 17 = I i ∧ i ≤ a.length ∧ exsEq (a.drop i) (b.drop i) = E) (fun i => a.length - i) (by kernel_rfl) 0 (by simp [hl]; simp [hE]) ?_
  rintro i f _ ⟨⟨L, rfl⟩, h1', h2, h15, h16, h17, hi, hinv⟩
  simp -dsimp [h1', h2, h15, h16, h17]
  refine condVW_introD (fun hlt => ?_) (fun hlt => ?_)
  · have hltb : i < b.length := by omega
    rw [drop_cons hlt, drop_cons hltb, exsEq] at hinv
    have e1 := List.getElem?_eq_getElem hlt
    have e2 := List.getElem?_eq_getElem hltb
    obtain ⟨x, hx⟩ : ∃ x, x = a[i] := ⟨_, rfl⟩
    obtain ⟨y, hy⟩ : ∃ y, y = b[i] := ⟨_, rfl⟩
    rw [← hx] at hinv e1
    rw [← hy] at hinv e2
    clear hx hy
    have cx := hg i x y e1 e2
    simp only [Ex.cells_eq] at cx
    simp -dsimp [h1', h2, h15, h16, h17, e1, e2, hok]
    refine acallsW_det (cx _) ?_
    cases hxy : x.eqB y
    · rw [hxy] at hinv
      simp -dsimp
      exact fin false _ (by rw [← hinv]; rfl)
    · rw [hxy] at hinv
      simp -dsimp [h1', h2, h15, h16, h17]
      exact ⟨i + 1, by omega, wrapS (by omega), by omega, by simpa using hinv⟩
  · have h3 : a.drop i = [] := List.drop_eq_nil_of_le (by omega)
    have h4 : b.drop i = [] := List.drop_eq_nil_of_le (by omega)
    rw [h3, h4, exsEq] at hinv
    simp -dsimp
    exact fin _ _ hinv
theorem eqfS_ok (a b : List Sm) (g : FuncId) (hok : okFn Tryz.prog g = true) (ha : a.length ≤ 2^40) (hb : b.length ≤ 2^40) (hg : ∀ (i : Nat) x y, a[i]? = some x → b[i]? = some y → ∀ H, ACalls Tryz.prog g [.agg x.cells, .agg y.cells] H (fun e H' => e = .ret (Bo (x.eqB y)) ∧ H' = H)) (H : List Blk) :
    ACalls Tryz.prog 77 [Sm.sl a, Sm.sl b, .fn (.func g) [] []] H (fun e H' => e = .ret (Bo (smsEq a b)) ∧ H' = H) := by
  refine acalls_tidy (acalls_of_vc (hn := fun _ => false) (od := fun _ => none) Tryz.func77 rfl (by kernel_rfl) ?_)
  obtain ⟨E, hE⟩ : ∃ E, E = smsEq a b := ⟨_, rfl⟩
  rw [← hE]
  have fin : ∀ b L, b = E → Tidy H (fun e H' => e = .ret (Bo E) ∧ H' = H) (.ret (Bo b)) (H ++ L) := fun b L h => by rw [h]; exact tidy_same rfl ⟨rfl, rfl⟩
  have fin0 : ∀ (b : Bool), b = E → Tidy H (fun e H' => e = .ret (Bo E) ∧ H' = H) (.ret (Bo b)) H := fun b h => by rw [h]; exact tidy_now rfl ⟨rfl, rfl⟩
  have hlen : smsEq a b = true → a.length = b.length := fun h => smsEq_len h
  simp -dsimp
  refine condVW_introNE (fun h1 h1a h1b => ?_) (fun h1 => ?_)
  · simp -dsimp
    exact fin0 _ (by rw [hE]; cases hh : smsEq a b; rfl; exact absurd (by rw [hlen hh]) h1)
  have hl : a.length = b.length := by omega
  simp -dsimp
  refine loop_rule (hn := fun _ => false) (od := fun _ => none) (fun (i : Nat) f H' => (∃ L, H' = H ++ L) ∧ f 1 = Sm.sl b ∧ f 2 = .fn (.func g) [] [] ∧ f 15 = Sm.sl a ∧ f 16 = I a.length ∧ f 17 = I i ∧ i ≤ a.length ∧ smsEq (a.drop i) (b.drop i) = E) (fun i => a.length - i) (by kernel_rfl) 0 (by simp [hl]; simp [hE]) ?_
  rintro i f _ ⟨⟨L, rfl⟩, h1', h2, h15, h16, h17, hi, hinv⟩
  simp -dsimp [h1', h2, h15, h16, h17]
  refine condVW_introD (fun hlt => ?_) (fun hlt => ?_)
  · have hltb : i < b.length := by omega
    rw [drop_cons hlt, drop_cons hltb, smsEq] at hinv
    have e1 := List.getElem?_eq_getElem hlt
    have e2 := List.getElem?_eq_getElem hltb
    obtain ⟨x, hx⟩ : ∃ x, x = a[i] := ⟨_, rfl⟩
    obtain ⟨y, hy⟩ : ∃ y, y = b[i] := ⟨_, rfl⟩
    rw [← hx] at hinv e1
    rw [← hy] at hinv e2
    clear hx hy
    have cx := hg i x y e1 e2
    simp only [Sm.cells_eq] at cx
    simp -dsimp [h1', h2, h15, h16, h17, e1, e2, hok]
    refine acallsW_det (cx _) ?_
    cases hxy : x.eqB y
    · rw [hxy] at hinv
      simp -dsimp
      exact fin false _ (by rw [← hinv]; rfl)
    · rw [hxy] at hinv
      simp -dsimp [h1', h2, h15, h16, h17]
      exact ⟨i + 1, by omega, wrapS (by omega), by omega, by simpa using hinv⟩
  · have h3 : a.drop i = [] := List.drop_eq_nil_of_le (by omega)
    have h4 : b.drop i = [] := List.drop_eq_nil_of_le (by omega)
    rw [h3, h4, smsEq] at hinv
    simp -dsimp
    exact fin _ _ hinv
theorem eqfF_ok (a b : List Fc) (g : FuncId) (hok : okFn Tryz.prog g = true) (ha : a.length ≤ 2^40) (hb : b.length ≤ 2^40) (hg : ∀ (i : Nat) x y, a[i]? = some x → b[i]? = some y → ∀ H, ACalls Tryz.prog g [.agg x.cells, .agg y.cells] H (fun e H' => e = .ret (Bo (x.eqB y)) ∧ H' = H)) (H : List Blk) :
    ACalls Tryz.prog 73 [Fc.sl a, Fc.sl b, .fn (.func g) [] []] H (fun e H' => e = .ret (Bo (fcsEq a b)) ∧ H' = H) := by
  refine acalls_tidy (acalls_of_vc (hn := fun _ => false) (od := fun _ => none) Tryz.func73 rfl (by kernel_rfl) ?_)
  obtain ⟨E, hE⟩ : ∃ E, E = fcsEq a b := ⟨_, rfl⟩
  rw [← hE]
  have fin : ∀ b L, b = E → Tidy H (fun e H' => e = .ret (Bo E) ∧ H' = H) (.ret (Bo b)) (H ++ L) := fun b L h => by rw [h]; exact tidy_same rfl ⟨rfl, rfl⟩
  have fin0 : ∀ (b : Bool), b = E → Tidy H (fun e H' => e = .ret (Bo E) ∧ H' = H) (.ret (Bo b)) H := fun b h => by rw [h]; exact tidy_now rfl ⟨rfl, rfl⟩
  have hlen : fcsEq a b = true → a.length = b.length := fun h => by rw [(fcs_same a b).1 h]
  simp -dsimp
  refine condVW_introNE (fun h1 h1a h1b => ?_) (fun h1 => ?_)
  · simp -dsimp
    exact fin0 _ (by rw [hE]; cases hh : fcsEq a b; rfl; exact absurd (by rw [hlen hh]) h1)
  have hl : a.length = b.length := by omega
  simp -dsimp
  refine loop_rule (hn := fun _ => false) (od := fun _ => none) (fun (i : Nat) f H' => (∃ L, H' = H ++ L) ∧ f 1 = Fc.sl b ∧ f 2 = .fn (.func g) [] [] ∧ f 15 = Fc.sl a ∧ f 16 = I a.length ∧ f 17 = I i ∧ i ≤ a.length ∧ fcsEq (a.drop i) (b.drop i) = E) (fun i => a.length - i) (by kernel_rfl) 0 (by simp [hl]; simp [hE]) ?_
  rintro i f _ ⟨⟨L, rfl⟩, h1', h2, h15, h16, h17, hi, hinv⟩
  simp -dsimp [h1', h2, h15, h16, h17]
  refine condVW_introD (fun hlt => ?_) (fun hlt => ?_)
  · have hltb : i < b.length := by omega
    rw [drop_cons hlt, drop_cons hltb, fcsEq] at hinv
    have e1 := List.getElem?_eq_getElem hlt
    have e2 := List.getElem?_eq_getElem hltb
    obtain ⟨x, hx⟩ : ∃ x, x = a[i] := ⟨_, rfl⟩
    obtain ⟨y, hy⟩ : ∃ y, y = b[i] := ⟨_, rfl⟩
    rw [← hx] at hinv e1
    rw [← hy] at hinv e2
    clear hx hy
    have cx := hg i x y e1 e2
    simp only [Fc.cells] at cx
    simp -dsimp [h1', h2, h15, h16, h17, e1, e2, hok]
    refine acallsW_det (cx _) ?_
    cases hxy : x.eqB y
    · rw [hxy] at hinv
      simp -dsimp
      exact fin false _ (by rw [← hinv]; rfl)
    · rw [hxy] at hinv
      simp -dsimp [h1', h2, h15, h16, h17]
      exact ⟨i + 1, by omega, wrapS (by omega), by omega, by simpa using hinv⟩
  · have h3 : a.drop i = [] := List.drop_eq_nil_of_le (by omega)
    have h4 : b.drop i = [] := List.drop_eq_nil_of_le (by omega)
    rw [h3, h4, fcsEq] at hinv
    simp -dsimp
    exact fin _ _ hinv
end Go.Proofs
namespace Go.Proofs
open Go.Mu
theorem exs_mem_cnt {l : List Ex} {e : Ex} (h : e ∈ l) : e.count ≤ exsCount l := by
  induction l with
  | nil => cases h
  | cons x l ih =>
    rw [exsCount]
    rcases List.mem_cons.1 h with rfl | h
    · omega
    · have := ih h; omega
theorem sms_mem_cnt {l : List Sm} {e : Sm} (h : e ∈ l) : e.count ≤ smsCount l := by
  induction l with
  | nil => cases h
  | cons x l ih =>
    rw [smsCount]
    rcases List.mem_cons.1 h with rfl | h
    · omega
    · have := ih h; omega
theorem sexpr_ok (m : Nat) : ∀ (x y : Ex), x.count < m → x.count ≤ 2^40 → y.count ≤ 2^40 → ∀ (H : List Blk), ACalls Tryz.prog 116 [.agg x.cells, .agg y.cells] H (fun e H' => e = .ret (Bo (x.eqB y)) ∧ H' = H) := by
  induction m with
  | zero => intro x y h; omega
  | succ m ih =>
    intro x y hm hcx hcy H
    have hx := Ex.count_eq x
    have hy := Ex.count_eq y
    have hlx := exs_len x.args
    have hly := exs_len y.args
    have ok1 : okFn Tryz.prog 116 = true := by kernel_rfl
    have c : ∀ H, ACalls Tryz.prog 117 [Ex.sl x.args, Ex.sl y.args, .fn (.func 116) [] []] H (fun e H' => e = .ret (Bo (exsEq x.args y.args)) ∧ H' = H) := fun H => by
      refine eqfE_ok x.args y.args 116 ok1 (by omega) (by omega) (fun i u v hu hv H => ?_) H
      have a1 := exs_mem_cnt (List.mem_of_getElem? hu)
      have a2 := exs_mem_cnt (List.mem_of_getElem? hv)
      exact ih u v (by omega) (by omega) (by omega) H
    refine acalls_tidy (acalls_of_vc (hn := fun _ => false) (od := fun _ => none) Tryz.func116 rfl (by kernel_rfl) ?_)
    obtain ⟨E, hE⟩ : ∃ E, E = x.eqB y := ⟨_, rfl⟩
    rw [← hE]
    rw [Ex.eqB_eq] at hE
    have fin : ∀ b L, b = E → Tidy H (fun e H' => e = .ret (Bo E) ∧ H' = H) (.ret (Bo b)) (H ++ L) := fun b L h => by rw [h]; exact tidy_same rfl ⟨rfl, rfl⟩
    replace hE := Hid.mk hE
    simp only [Ex.cells_eq]
    by_cases h1 : x.op = y.op
    rotate_left
    · have hb : (x.op == y.op) = false := by simpa using h1
      simp -dsimp [hb]
      exact fin false _ (by rw [hE.out, decide_eq_false h1]; rfl)
    by_cases h2 : x.word = y.word
    rotate_left
    · have hb : (x.word == y.word) = false := by simpa using h2
      simp -dsimp [h1, hb]
      exact fin false _ (by rw [hE.out, decide_eq_false h2, Bool.and_false]; rfl)
    by_cases h3 : x.name = y.name
    rotate_left
    · simp -dsimp [h1, h2, h3]
      exact fin false _ (by rw [hE.out, decide_eq_false h3, Bool.and_false]; rfl)
    simp -dsimp [h1, h2, h3]
    refine acallsW_det (c _) ?_
    simp -dsimp [h1, h2, h3]
    exact fin _ _ (by rw [hE.out, decide_eq_true h1, decide_eq_true h2, decide_eq_true h3]; rfl)
def headB (x y : Sm) : Bool := decide (x.kind = y.kind) && decide (x.name = y.name) && decide (x.names = y.names) && decide (x.low = y.low) && decide (x.high = y.high)
theorem sm_head (x y : Sm) : x.eqB y = (headB x y && (x.e.eqB y.e && (x.a.eqB y.a && (exsEq x.args y.args && (smsEq x.body y.body && smsEq x.els y.els))))) := by
  rw [Sm.eqB_eq, headB]
  cases decide (x.kind = y.kind) <;> cases decide (x.name = y.name) <;> cases decide (x.names = y.names) <;> cases decide (x.low = y.low) <;> cases decide (x.high = y.high) <;> cases exsEq x.args y.args <;> cases x.e.eqB y.e <;> cases x.a.eqB y.a <;> rfl
theorem sstmt_ok (m : Nat) : ∀ (x y : Sm), x.count < m → x.count ≤ 2^40 → y.count ≤ 2^40 → ∀ (H : List Blk), ACalls Tryz.prog 78 [.agg x.cells, .agg y.cells] H (fun e H' => e = .ret (Bo (x.eqB y)) ∧ H' = H) := by
  induction m with
  | zero => intro x y h; omega
  | succ m ih =>
    intro x y hm hcx hcy H
    have hx := Sm.count_eq x
    have hy := Sm.count_eq y
    have l1 := exs_len x.args
    have l2 := exs_len y.args
    have l3 := sms_len x.body
    have l4 := sms_len y.body
    have l5 := sms_len x.els
    have l6 := sms_len y.els
    have ok1 : okFn Tryz.prog 116 = true := by kernel_rfl
    have ok2 : okFn Tryz.prog 78 = true := by kernel_rfl
    have cn := fun H => eqst_ok x.names y.names (by omega) (by omega) H
    have ce := fun H => sexpr_ok _ x.e y.e (Nat.lt_succ_self _) (by omega) (by omega) H
    have ca := fun H => sexpr_ok _ x.a y.a (Nat.lt_succ_self _) (by omega) (by omega) H
    have cg : ∀ H, ACalls Tryz.prog 117 [Ex.sl x.args, Ex.sl y.args, .fn (.func 116) [] []] H (fun e H' => e = .ret (Bo (exsEq x.args y.args)) ∧ H' = H) := fun H => by
      refine eqfE_ok x.args y.args 116 ok1 (by omega) (by omega) (fun i u v hu hv H => ?_) H
      have a1 := exs_mem_cnt (List.mem_of_getElem? hu)
      have a2 := exs_mem_cnt (List.mem_of_getElem? hv)
      exact sexpr_ok _ u v (Nat.lt_succ_self _) (by omega) (by omega) H
    have cb : ∀ H, ACalls Tryz.prog 77 [Sm.sl x.body, Sm.sl y.body, .fn (.func 78) [] []] H (fun e H' => e = .ret (Bo (smsEq x.body y.body)) ∧ H' = H) := fun H => by
      refine eqfS_ok x.body y.body 78 ok2 (by omega) (by omega) (fun i u v hu hv H => ?_) H
      have a1 := sms_mem_cnt (List.mem_of_getElem? hu)
      have a2 := sms_mem_cnt (List.mem_of_getElem? hv)
      exact ih u v (by omega) (by omega) (by omega) H
    have cl : ∀ H, ACalls Tryz.prog 77 [Sm.sl x.els, Sm.sl y.els, .fn (.func 78) [] []] H (fun e H' => e = .ret (Bo (smsEq x.els y.els)) ∧ H' = H) := fun H => by
      refine eqfS_ok x.els y.els 78 ok2 (by omega) (by omega) (fun i u v hu hv H => ?_) H
      have a1 := sms_mem_cnt (List.mem_of_getElem? hu)
      have a2 := sms_mem_cnt (List.mem_of_getElem? hv)
      exact ih u v (by omega) (by omega) (by omega) H
    simp only [Ex.cells_eq] at ce ca
    refine acalls_tidy (acalls_of_awp Tryz.func78 rfl (by kernel_rfl) ?_)
    obtain ⟨E, hE⟩ : ∃ E, E = x.eqB y := ⟨_, rfl⟩
    rw [← hE]
    rw [sm_head] at hE
    have fin : ∀ b L, b = E → Tidy H (fun e H' => e = .ret (Bo E) ∧ H' = H) (.ret (Bo b)) (H ++ L) := fun b L h => by rw [h]; exact tidy_same rfl ⟨rfl, rfl⟩
    replace hE := Hid.mk hE
    simp only [Sm.cells_eq]
    obtain ⟨bx, hbx⟩ : ∃ bx, bx = Blk.box 82 [I x.kind, St x.name, St.sl x.names, I x.e.op, U x.e.word, St x.e.name, Ex.sl x.e.args, I x.a.op, U x.a.word, St x.a.name, Ex.sl x.a.args, Ex.sl x.args, U x.low, U x.high, Sm.sl x.body, Sm.sl x.els] := ⟨_, rfl⟩
    obtain ⟨b', hby⟩ : ∃ bx, bx = Blk.box 82 [I y.kind, St y.name, St.sl y.names, I y.e.op, U y.e.word, St y.e.name, Ex.sl y.e.args, I y.a.op, U y.a.word, St y.a.name, Ex.sl y.a.args, Ex.sl y.args, U y.low, U y.high, Sm.sl y.body, Sm.sl y.els] := ⟨_, rfl⟩
    refine awp_cut (fun _ => false) (fun _ => none) (fun f H' => H' = H ++ [bx, b'] ∧ f 2 = .bp H.length 0 ∧ f 3 = .bp (H.length + 1) 0) (by kernel_rfl) ?_ ?_
    · simp -dsimp [hbx, hby]
    rintro g _ ⟨rfl, g2, g3⟩
    obtain ⟨V, hV⟩ : ∃ V, V = H ++ [bx, b'] := ⟨_, rfl⟩
    have v0 : V[H.length]? = some (.box 82 [I x.kind, St x.name, St.sl x.names, I x.e.op, U x.e.word, St x.e.name, Ex.sl x.e.args, I x.a.op, U x.a.word, St x.a.name, Ex.sl x.a.args, Ex.sl x.args, U x.low, U x.high, Sm.sl x.body, Sm.sl x.els]) := by rw [hV, hbx]; simp
    have v1 : V[H.length + 1]? = some (.box 82 [I y.kind, St y.name, St.sl y.names, I y.e.op, U y.e.word, St y.e.name, Ex.sl y.e.args, I y.a.op, U y.a.word, St y.a.name, Ex.sl y.a.args, Ex.sl y.args, U y.low, U y.high, Sm.sl y.body, Sm.sl y.els]) := by rw [hV, hby]; simp
    have finV : ∀ b, b = E → Tidy H (fun e H' => e = .ret (Bo E) ∧ H' = H) (.ret (Bo b)) V := fun b h => by rw [hV]; exact fin b _ h
    rw [← hV]
    clear hV
    refine awp_cut (fun _ => false) (fun _ => none) (fun f H' => V = H' ∧ f 2 = .bp H.length 0 ∧ f 3 = .bp (H.length + 1) 0 ∧ headB x y = true) (by kernel_rfl) ?_ ?_
    · obtain ⟨hd, hhd⟩ : ∃ hd, hd = headB x y := ⟨_, rfl⟩
      rw [← hhd]
      have hE2 : hd = false → false = E := fun h => by rw [hE.out, ← hhd, h]; rfl
      unfold headB at hhd
      by_cases h1 : x.kind = y.kind
      rotate_left
      · have hb : (x.kind == y.kind) = false := by simpa using h1
        have hb' : (x.kind != y.kind) = true := by simpa using h1
        simp -dsimp [g2, g3, v0, v1, hb, hb']
        exact finV _ (hE2 (by rw [hhd, decide_eq_false h1]; rfl))
      by_cases h2 : x.name = y.name
      rotate_left
      · simp -dsimp [g2, g3, v0, v1, h1, h2]
        exact finV _ (hE2 (by rw [hhd, decide_eq_false h2, Bool.and_false]; rfl))
      by_cases h3 : x.names = y.names
      rotate_left
      · rw [decide_eq_false h3] at cn
        simp -dsimp [g2, g3, v0, v1, h1, h2]
        refine acallsW_det (cn _) ?_
        simp -dsimp [g2, g3, v0, v1, h1, h2]
        exact finV _ (hE2 (by rw [hhd, decide_eq_false h3, Bool.and_false]; rfl))
      rw [decide_eq_true h3] at cn
      by_cases h4 : x.low = y.low
      rotate_left
      · have hb' : (x.low != y.low) = true := by simpa using h4
        simp -dsimp [g2, g3, v0, v1, h1, h2]
        refine acallsW_det (cn _) ?_
        simp -dsimp [g2, g3, v0, v1, h1, h2, hb']
        exact finV _ (hE2 (by rw [hhd, decide_eq_false h4, Bool.and_false]; rfl))
      by_cases h5 : x.high = y.high
      rotate_left
      · have hb' : (x.high != y.high) = true := by simpa using h5
        simp -dsimp [g2, g3, v0, v1, h1, h2]
        refine acallsW_det (cn _) ?_
        simp -dsimp [g2, g3, v0, v1, h1, h2, h4, hb']
        exact finV _ (hE2 (by rw [hhd, decide_eq_false h5, Bool.and_false]))
      have hT : hd = true := by rw [hhd, decide_eq_true h1, decide_eq_true h2, decide_eq_true h3, decide_eq_true h4, decide_eq_true h5]; rfl
      simp -dsimp [g2, g3, v0, v1, h1, h2]
      refine acallsW_det (cn _) ?_
      simp -dsimp [g2, g3, v0, v1, h1, h2, h4, h5]
      exact hT
    clear g g2 g3
    rintro g _ ⟨rfl, g2, g3, hhd⟩
    have hE3 : E = (x.e.eqB y.e && (x.a.eqB y.a && (exsEq x.args y.args && (smsEq x.body y.body && smsEq x.els y.els)))) := by rw [hE.out, hhd, Bool.true_and]
    clear hE hhd
    replace hE := Hid.mk hE3
    clear hE3
    refine awp_all (fun _ => false) (fun _ => none) (by kernel_rfl) ?_
    simp -dsimp [g2, g3, v0, v1]
    refine acallsW_det (ce _) ?_
    cases q1 : x.e.eqB y.e
    · simp -dsimp [g2, g3, v0, v1]
      exact finV _ (by rw [hE.out, q1]; rfl)
    simp -dsimp [g2, g3, v0, v1]
    refine acallsW_det (ca _) ?_
    cases q2 : x.a.eqB y.a
    · simp -dsimp [g2, g3, v0, v1]
      exact finV _ (by rw [hE.out, q1, q2]; rfl)
    simp -dsimp [g2, g3, v0, v1]
    refine acallsW_det (cg _) ?_
    cases q3 : exsEq x.args y.args
    · simp -dsimp [g2, g3, v0, v1]
      exact finV _ (by rw [hE.out, q1, q2, q3]; rfl)
    simp -dsimp [g2, g3, v0, v1]
    refine acallsW_det (cb _) ?_
    cases q4 : smsEq x.body y.body
    · simp -dsimp [g2, g3, v0, v1]
      exact finV _ (by rw [hE.out, q1, q2, q3, q4]; rfl)
    simp -dsimp [g2, g3, v0, v1]
    refine acallsW_det (cl _) ?_
    simp -dsimp [g2, g3, v0, v1]
    exact finV _ (by rw [hE.out, q1, q2, q3, q4]; rfl)
structure Fc.OkS (f : Fc) : Prop where
  params : f.params.length ≤ 2^40
  vars : f.vars.length ≤ 2^40
  rets : f.rets.length ≤ 2^40
  body : smsCount f.body ≤ 2^40
theorem fc_chain (f g : Fc) : f.eqB g = (decide (f.name = g.name) && (decide (f.params = g.params) && (decide (f.vars = g.vars) && (decide (f.rets = g.rets) && smsEq f.body g.body)))) := by
  unfold Fc.eqB
  cases decide (f.name = g.name) <;> cases decide (f.params = g.params) <;> cases decide (f.vars = g.vars) <;> cases decide (f.rets = g.rets) <;> cases smsEq f.body g.body <;> rfl
theorem sfunc_ok (x y : Fc) (hx : x.OkS) (hy : y.OkS) (H : List Blk) : ACalls Tryz.prog 74 [.agg x.cells, .agg y.cells] H (fun e H' => e = .ret (Bo (x.eqB y)) ∧ H' = H) := by
  have l3 := sms_len x.body
  have l4 := sms_len y.body
  have b1 := hx.body
  have b2 := hy.body
  have ok2 : okFn Tryz.prog 78 = true := by kernel_rfl
  have cp := fun H => eqvr_ok x.params y.params hx.params hy.params H
  have cv := fun H => eqvr_ok x.vars y.vars hx.vars hy.vars H
  have cr := fun H => eqst_ok x.rets y.rets hx.rets hy.rets H
  have cb : ∀ H, ACalls Tryz.prog 77 [Sm.sl x.body, Sm.sl y.body, .fn (.func 78) [] []] H (fun e H' => e = .ret (Bo (smsEq x.body y.body)) ∧ H' = H) := fun H => by
    refine eqfS_ok x.body y.body 78 ok2 (by omega) (by omega) (fun i u v hu hv H => ?_) H
    have a1 := sms_mem_cnt (List.mem_of_getElem? hu)
    have a2 := sms_mem_cnt (List.mem_of_getElem? hv)
    exact sstmt_ok _ u v (Nat.lt_succ_self _) (by omega) (by omega) H
  refine acalls_tidy (acalls_of_vc (hn := fun _ => false) (od := fun _ => none) Tryz.func74 rfl (by kernel_rfl) ?_)
  obtain ⟨E, hE⟩ : ∃ E, E = x.eqB y := ⟨_, rfl⟩
  rw [← hE]
  rw [fc_chain] at hE
  have fin : ∀ b L, b = E → Tidy H (fun e H' => e = .ret (Bo E) ∧ H' = H) (.ret (Bo b)) (H ++ L) := fun b L h => by rw [h]; exact tidy_same rfl ⟨rfl, rfl⟩
  replace hE := Hid.mk hE
  simp only [Fc.cells]
  by_cases h1 : x.name = y.name
  rotate_left
  · simp -dsimp [h1]
    exact fin false _ (by rw [hE.out, decide_eq_false h1]; rfl)
  simp -dsimp [h1]
  refine acallsW_det (cp _) ?_
  cases q1 : decide (x.params = y.params)
  · simp -dsimp [h1]
    exact fin false _ (by rw [hE.out, q1, Bool.false_and, Bool.and_false])
  simp -dsimp [h1]
  refine acallsW_det (cv _) ?_
  cases q2 : decide (x.vars = y.vars)
  · simp -dsimp [h1]
    exact fin false _ (by rw [hE.out, q1, q2, Bool.false_and, Bool.and_false, Bool.and_false])
  simp -dsimp [h1]
  refine acallsW_det (cr _) ?_
  cases q3 : decide (x.rets = y.rets)
  · simp -dsimp [h1]
    exact fin false _ (by rw [hE.out, q1, q2, q3, Bool.false_and, Bool.and_false, Bool.and_false, Bool.and_false])
  simp -dsimp [h1]
  refine acallsW_det (cb _) ?_
  simp -dsimp [h1]
  exact fin _ _ (by rw [hE.out, decide_eq_true h1, q1, q2, q3]; rfl)
theorem ssame_ok (a b : Pg) (ha : a.OkS) (hb : b.OkS) (H : List Blk) : ACalls Tryz.prog 40 [.agg a.cells, .agg b.cells] H (fun e H' => e = .ret (Bo (a.eqB b)) ∧ H' = H) := by
  have ok1 : okFn Tryz.prog 74 = true := by kernel_rfl
  have cr := fun H => eqrg_ok a.regions b.regions ha.regions hb.regions H
  have cf : ∀ H, ACalls Tryz.prog 73 [Fc.sl a.funcs, Fc.sl b.funcs, .fn (.func 74) [] []] H (fun e H' => e = .ret (Bo (fcsEq a.funcs b.funcs)) ∧ H' = H) := fun H => by
    refine eqfF_ok a.funcs b.funcs 74 ok1 ha.funcs hb.funcs (fun i u v hu hv H => ?_) H
    have m1 := List.mem_of_getElem? hu
    have m2 := List.mem_of_getElem? hv
    exact sfunc_ok u v ⟨ha.params u m1, ha.vars u m1, ha.rets u m1, ha.body u m1⟩ ⟨hb.params v m2, hb.vars v m2, hb.rets v m2, hb.body v m2⟩ H
  refine acalls_tidy (acalls_of_vc (hn := fun _ => false) (od := fun _ => none) Tryz.func40 rfl (by kernel_rfl) ?_)
  obtain ⟨E, hE⟩ : ∃ E, E = a.eqB b := ⟨_, rfl⟩
  rw [← hE]
  unfold Pg.eqB at hE
  have fin : ∀ b L, b = E → Tidy H (fun e H' => e = .ret (Bo E) ∧ H' = H) (.ret (Bo b)) (H ++ L) := fun b L h => by rw [h]; exact tidy_same rfl ⟨rfl, rfl⟩
  replace hE := Hid.mk hE
  simp only [Pg.cells]
  simp -dsimp
  refine acallsW_det (cr _) ?_
  cases q1 : decide (a.regions = b.regions)
  · simp -dsimp
    exact fin false _ (by rw [hE.out, q1]; rfl)
  simp -dsimp
  refine acallsW_det (cf _) ?_
  simp -dsimp
  exact fin _ _ (by rw [hE.out, q1]; rfl)
end Go.Proofs
namespace Go.Proofs
open Go.Mu
structure Pg.OkP (p : Pg) : Prop where
  ok2 : p.Ok2
  okc : p.OkC
def askF (p : Pg) : Int := if mayE p = 0 then (if (formT p).calls = true ∨ (formT p).fors = true then 9 else 0) else mayE p
theorem fask_ok (p : Pg) (hp : p.OkP) (H : List Blk) : ACalls Tryz.prog 37 [.agg p.cells] H (fun e H' => e = .ret (I (askF p)) ∧ H' = H) := by
  have cm := fun H => may_ok p hp.ok2 H
  have cf := fun H => form_ok p hp.ok2 hp.ok2.body36 (fun f hf => hp.okc.vars f hf) hp.okc.funcs hp.okc.regions H
  refine acalls_tidy (acalls_of_vc (hn := fun _ => false) (od := fun _ => none) Tryz.func37 rfl (by kernel_rfl) ?_)
  obtain ⟨E, hE⟩ : ∃ E, E = askF p := ⟨_, rfl⟩
  rw [← hE]
  unfold askF at hE
  have fin : ∀ c L, c = E → Tidy H (fun x H' => x = AE.ret (I E) ∧ H' = H) (.ret (I c)) (H ++ L) := fun c L h => by rw [h]; exact tidy_same rfl ⟨rfl, rfl⟩
  simp only [Pg.cells] at cm cf
  simp -dsimp [Pg.cells]
  refine acallsW_det (cm _) ?_
  by_cases hm : mayE p = 0
  · have h2 : formE p = formT p := by rw [formE, if_pos hm]
    rw [h2] at cf
    rw [if_pos hm] at hE
    obtain ⟨ca, fo, ar, st, hT⟩ : ∃ a b c d, (⟨a, b, c, d⟩ : Fo) = formT p := ⟨_, _, _, _, rfl⟩
    rw [← hT] at cf hE
    simp only [Fo.cells] at cf
    simp only [] at hE
    replace hE := Hid.mk hE
    simp -dsimp [hm]
    refine acallsW_det (cf _) ?_
    cases ca
    · cases fo
      · simp -dsimp
        exact fin _ _ (by rw [hE.out]; rfl)
      · simp -dsimp
        exact fin _ _ (by rw [hE.out]; rfl)
    · simp -dsimp
      exact fin _ _ (by rw [hE.out]; rfl)
  · rw [if_neg hm] at hE
    replace hE := Hid.mk hE
    have hb : (mayE p != 0) = true := by simpa using hm
    simp -dsimp [hb]
    exact fin _ _ hE.out.symm
structure AskP (p : Pg) (F : Fc) : Prop where
  eq : p = onePg p.regions F
  okf : F.OkF
  kinds : ∃ K, smsFOk K F.body = true ∧ ∀ n ∈ K, n.size ≤ maxLen
theorem ask_has {p : Pg} (hp : p.OkP) (h : askF p = 0) : ∃ F, AskP p F := by
  unfold askF at h
  by_cases hm : mayE p = 0
  · rw [if_pos hm] at h
    by_cases hc : (formT p).calls = true ∨ (formT p).fors = true
    · rw [if_pos hc] at h; cases h
    · simp only [not_or, Bool.not_eq_true] at hc
      obtain ⟨F, hF⟩ := nocalls_one hm hc.1
      have hmem : F ∈ p.funcs := by rw [hF]; exact List.mem_singleton.2 rfl
      have hk := may_fok hm hF hc.1 hc.2
      have hnm : ∀ n ∈ (F.params ++ F.vars).map Vr.name, n.size ≤ maxLen := fun n hn => by
        obtain ⟨v, hv, rfl⟩ := List.mem_map.1 hn
        have := (hp.ok2.nok.funcs F hmem).2.1 v hv
        unfold maxLen; omega
      refine ⟨F, by cases p; simp only at hF; rw [hF]; rfl, ⟨hp.okc.vars F hmem, hp.okc.body F hmem, fun n hn => hnm n (fok_sets _ _ _ (Nat.le_refl _) hk n hn), fun v hv => hnm _ (List.mem_map_of_mem (List.mem_append_right _ hv))⟩, _, hk, hnm⟩
  · rw [if_neg hm] at h; exact absurd h hm
theorem AskP.fold {p : Pg} {F : Fc} (h : AskP p F) : AskP (onePg p.regions F.fold1) F.fold1 := by
  obtain ⟨K, hK, hn⟩ := h.kinds
  have hk := fold_fok K _ F.body (zeroK F.vars) (Nat.le_refl _) hK
  refine ⟨rfl, ⟨h.okf.vars, ?_, fun n hn' => hn n (fok_sets _ _ _ (Nat.le_refl _) hk n hn'), h.okf.vnames⟩, K, hk, hn⟩
  have := fold_cnt F.body (zeroK F.vars)
  have := h.okf.body
  show smsCount (smsFold F.body (zeroK F.vars)).1 ≤ _
  omega
theorem one_okC {rs : List Rg} {F : Fc} (h : (onePg rs F).OkC) : (onePg rs F.fold1).OkC := by
  have m : F ∈ (onePg rs F).funcs := List.mem_singleton.2 rfl
  refine ⟨h.regions, by simp [onePg], fun f hf => ?_, fun f hf => ?_, fun f hf => ?_, fun f hf => ?_⟩ <;> obtain rfl := List.mem_singleton.1 hf
  · exact h.params F m
  · exact h.vars F m
  · exact h.rets F m
  · have := fold_cnt F.body (zeroK F.vars)
    have := h.body F m
    show smsCount (smsFold F.body (zeroK F.vars)).1 ≤ _
    omega
theorem one_okS {rs : List Rg} {F : Fc} (h : (onePg rs F).OkC) : (onePg rs F).OkS :=
  ⟨by have := h.regions; omega, by have := h.funcs; omega, fun f hf => by have := h.params f hf; omega, fun f hf => by have := h.vars f hf; omega, fun f hf => by have := h.rets f hf; omega, fun f hf => by have := h.body f hf; omega⟩
def Pg.nil : Pg := ⟨[], []⟩
def foldE (p : Pg) : Pg × List Tm × Int := if askF p = 0 then (match p.funcs with | [F] => (onePg p.regions F.fold1, F.terms1, 0) | _ => (Pg.nil, [], 0)) else (Pg.nil, [], askF p)
theorem foldE_one {p : Pg} {F : Fc} (h : AskP p F) (h0 : askF p = 0) : foldE p = (onePg p.regions F.fold1, F.terms1, 0) := by
  unfold foldE
  rw [if_pos h0]
  have : p.funcs = [F] := by rw [h.eq]; rfl
  rw [this]
theorem fprog_ok (p : Pg) (hp : p.OkP) (H : List Blk) : ACalls Tryz.prog 19 [.agg p.cells] H (fun e H' => e = .ret (.tup [.agg (foldE p).1.cells, Tm.sl (foldE p).2.1, I (foldE p).2.2]) ∧ H' = H) := by
  have ca := fun H => fask_ok p hp H
  refine acalls_tidy (acalls_weakE (acalls_of_vc (hn := fun _ => false) (od := fun _ => none) Tryz.func19 rfl (by kernel_rfl) ?_))
  by_cases h0 : askF p = 0
  · obtain ⟨F, hF⟩ := ask_has hp h0
    have co := fun H => once_ok p.regions F (by rw [← hF.eq]; exact hp.okc) hF.okf H
    rw [foldE_one hF h0]
    rw [← hF.eq] at co
    obtain ⟨Q, hQ⟩ : ∃ Q, Q = onePg p.regions F.fold1 := ⟨_, rfl⟩
    obtain ⟨tm, htm⟩ : ∃ tm, tm = F.terms1 := ⟨_, rfl⟩
    rw [← hQ, ← htm] at co ⊢
    simp only [Pg.cells, h0] at ca co ⊢
    simp -dsimp
    refine acallsW_det (ca _) ?_
    simp -dsimp
    refine acallsW_det (co _) ?_
    simp -dsimp
    exact tidy_weak (.refl _) (tidy_same rfl ⟨rfl, rfl⟩)
  · have hE : foldE p = (Pg.nil, [], askF p) := by unfold foldE; rw [if_neg h0]
    rw [hE]
    have hb : (askF p != 0) = true := by simpa using h0
    simp only [Pg.cells] at ca ⊢
    simp -dsimp
    refine acallsW_det (ca _) ?_
    simp -dsimp [hb]
    refine tidy_weak (r' := .tup [.agg [Rg.sl [], Fc.sl []], Tm.sl [], I (askF p)]) (.tupL (.cons (.aggL (.cons (.nil 4) (.cons (.nil 5) .nil))) (.cons (.nil 4) (.cons (.refl _) .nil)))) ?_
    exact tidy_same rfl ⟨rfl, rfl⟩
end Go.Proofs
namespace Go.Proofs
open Go.Mu
abbrev lF : ByteArray := ⟨#[102]⟩
abbrev lP : ByteArray := ⟨#[112]⟩
abbrev lQ : ByteArray := ⟨#[113]⟩
abbrev lS : ByteArray := ⟨#[115]⟩
abbrev lX : ByteArray := ⟨#[120]⟩
abbrev lY : ByteArray := ⟨#[121]⟩
def eZ : Ex := .mk 0 0 ByteArray.empty []
def vE (nm : ByteArray) : Ex := .mk 2 0 nm []
def cE (n : Int) : Ex := .mk 1 n ByteArray.empty []
def opE (o : Int) (l : List Ex) : Ex := .mk o 0 ByteArray.empty l
def setS (n : ByteArray) (e : Ex) : Sm := .mk 1 n [] e eZ [] 0 0 [] []
def ifS (e : Ex) (a b : List Sm) : Sm := .mk 3 ByteArray.empty [] e eZ [] 0 0 a b
def whileS (e : Ex) (a : List Sm) : Sm := .mk 4 ByteArray.empty [] e eZ [] 0 0 a []
def oneF (l : List Sm) : Fc := ⟨lF, [⟨lP, 1, 0, false⟩], [⟨lX, 1, 0, false⟩, ⟨lY, 1, 0, false⟩], [], l⟩
def oneU (l : List Sm) : Pg := onePg [] (oneF l)
theorem num12_ok (n : Int) (H : List Blk) : ACalls Tryz.prog 13 [I n] H (fun e H' => e = .ret (I n) ∧ H' = H) := by
  refine acalls_tidy (acalls_of_vc (hn := fun _ => false) (od := fun _ => none) Tryz.func13 rfl (by kernel_rfl) ?_)
  simp -dsimp
  exact tidy_now rfl ⟨rfl, rfl⟩
theorem v12_ok (nm : ByteArray) (H : List Blk) : ACalls Tryz.prog 33 [St nm] H (fun e H' => e = .ret (.agg (vE nm).cells) ∧ H' = H) := by
  refine acalls_tidy (acalls_weakE (acalls_of_vc (hn := fun _ => false) (od := fun _ => none) Tryz.func33 rfl (by kernel_rfl) ?_))
  simp -dsimp
  refine tidy_weak (r' := .agg (vE nm).cells) ?_ (tidy_same rfl ⟨by simp, rfl⟩)
  rw [Ex.cells_eq]
  exact .aggL (.cons (.refl _) (.cons (.refl _) (.cons (.refl _) (.cons (.nil _) .nil))))
theorem c12_ok (n : Int) (H : List Blk) : ACalls Tryz.prog 31 [U n] H (fun e H' => e = .ret (.agg (cE n).cells) ∧ H' = H) := by
  refine acalls_tidy (acalls_weakE (acalls_of_vc (hn := fun _ => false) (od := fun _ => none) Tryz.func31 rfl (by kernel_rfl) ?_))
  simp -dsimp
  refine tidy_weak (r' := .agg (cE n).cells) ?_ (tidy_same rfl ⟨by simp, rfl⟩)
  rw [Ex.cells_eq]
  exact .aggL (.cons (.refl _) (.cons (.refl _) (.cons (.refl _) (.cons (.nil _) .nil))))
theorem op12_ok (o : Int) (l : List Ex) (H : List Blk) : ACalls Tryz.prog 32 [I o, Ex.sl l] H (fun e H' => e = .ret (.agg (opE o l).cells) ∧ H' = H) := by
  refine acalls_tidy (acalls_of_vc (hn := fun _ => false) (od := fun _ => none) Tryz.func32 rfl (by kernel_rfl) ?_)
  simp -dsimp
  exact tidy_same rfl ⟨rfl, rfl⟩
theorem set12_ok (n : ByteArray) (e : Ex) (H : List Blk) : ACalls Tryz.prog 30 [St n, .agg e.cells] H (fun r H' => r = .ret (.agg (setS n e).cells) ∧ H' = H) := by
  refine acalls_tidy (acalls_weakE (acalls_of_vc (hn := fun _ => false) (od := fun _ => none) Tryz.func30 rfl (by kernel_rfl) ?_))
  simp -dsimp [Ex.cells_eq]
  refine tidy_weak (r' := .agg (setS n e).cells) ?_ (tidy_same rfl ⟨by simp, rfl⟩)
  rw [Sm.cells_eq]
  exact .aggL (.cons (.refl _) (.cons (.refl _) (.cons (.nil _) (.cons (.refl _) (.cons (.refl _) (.cons (.refl _) (.cons (.refl _) (.cons (.refl _) (.cons (.refl _) (.cons (.refl _) (.cons (.nil _) (.cons (.nil _) (.cons (.refl _) (.cons (.refl _) (.cons (.nil _) (.cons (.nil _) .nil))))))))))))))))
theorem one12_ok (l : List Sm) (H : List Blk) : ACalls Tryz.prog 29 [Sm.sl l] H (fun r H' => r = .ret (.agg (oneU l).cells) ∧ H' = H) := by
  refine acalls_tidy (acalls_weakE (acalls_of_vc (hn := fun _ => false) (od := fun _ => none) Tryz.func29 rfl (by kernel_rfl) ?_))
  simp -dsimp
  refine tidy_weak (r' := .agg (oneU l).cells) ?_ (tidy_same rfl ⟨by simp, rfl⟩)
  refine .aggL (.cons (.nil _) (.cons (.vsR (.cons (.cons (.refl _) (.cons (.refl _) (.cons (.refl _) (.cons (.nil _) (.cons (.refl _) .nil))))) .nil)) .nil))
theorem oneU_okP (l : List Sm) (h : smsCount l ≤ 1000) : (oneU l).OkP := by
  have one : ∀ f ∈ (oneU l).funcs, f = oneF l := fun f hf => by simpa [oneU, onePg] using hf
  refine ⟨⟨⟨by simp [oneU, onePg], by simp [oneU, onePg], fun f hf => ?_, fun f hf => ?_, fun f hf => ?_, fun f hf => ?_⟩, ⟨by simp [oneU, onePg], fun f hf => ⟨?_, ?_, ?_⟩⟩, fun f hf => ?_⟩, ⟨by simp [oneU, onePg], by simp [oneU, onePg], fun f hf => ?_, fun f hf => ?_, fun f hf => ?_, fun f hf => ?_⟩⟩ <;> obtain rfl := one f hf
  · show smsCount l ≤ _; omega
  · simp [oneF]
  · simp [oneF]
  · simp [oneF]
  · show ByteArray.size lF ≤ _; decide
  · intro v hv
    simp [oneF] at hv
    rcases hv with rfl | rfl | rfl
    · show ByteArray.size lP ≤ _; decide
    · show ByteArray.size lX ≤ _; decide
    · show ByteArray.size lY ≤ _; decide
  · intro s hs; simp [oneF] at hs
  · show smsCount l ≤ _; omega
  · simp [oneF]
  · simp [oneF]
  · simp [oneF]
  · show smsCount l ≤ _; omega
def w1 : Pg := oneU [setS lX (cE 1), setS lY (opE 6 [vE lX, vE lP]), ifS (opE 17 [vE lX, cE 1]) [setS lY (cE 2)] [setS lY (cE 3)]]
def w1' : Pg := oneU [setS lX (cE 1), setS lY (opE 6 [cE 1, vE lP]), setS lY (cE 2)]
def w2 : Pg := oneU [whileS (vE lP) [setS lX (opE 6 [vE lX, cE 1])]]
def ixE : Ex := .mk 3 0 lS [cE 0]
theorem w1_eq : foldE w1 = (w1', [tSame, tSame, .mk 4 [] true [[tSame]]], 0) := by kernel_rfl
theorem w2_eq : foldE w2 = (w2, [.mk 5 [] false [[tSame]]], 0) := by kernel_rfl
def noK : KEnv := fun _ => none
theorem noK_at (H : List Blk) : KnAt noK H (.v (.map none)) := ⟨[], fun L => rfl, fun n => rfl⟩
theorem a_eq : (opE 21 [cE 1, vE lP, ixE]).fold noK = opE 21 [cE 1, vE lP, ixE] := by kernel_rfl
theorem b_eq : (opE 21 [cE 1, vE lP, vE lQ]).fold noK = vE lP := by kernel_rfl
theorem fold_of {p q : Pg} {t : List Tm} {e : Int} (hp : p.OkP) (h : foldE p = (q, t, e)) (H : List Blk) : ACalls Tryz.prog 19 [.agg p.cells] H (fun x H' => x = .ret (.tup [.agg q.cells, Tm.sl t, I e]) ∧ H' = H) := by
  have := fprog_ok p hp H
  rwa [h] at this
theorem fexpr_of {e x : Ex} (hc : e.count ≤ 1000) (h : e.fold noK = x) (H : List Blk) : ACalls Tryz.prog 25 [.agg e.cells, .v (.map none)] H (fun r H' => r = .ret (.agg x.cells) ∧ H' = H) := by
  have := fexpr_ok noK _ e (Nat.lt_succ_self _) (by omega) H _ (noK_at H)
  rwa [h] at this
theorem oksP_of {p : Pg} (h : p.OkP) : p.OkS := by
  have h1 := h.ok2.ok
  exact ⟨h1.regions, h1.funcs, fun f hf => by have := h1.params f hf; omega, fun f hf => by have := h1.vars f hf; omega, h1.rets, h1.body⟩
theorem same_of {p : Pg} (h : p.OkP) (H : List Blk) : ACalls Tryz.prog 20 [.agg p.cells, .agg p.cells] H (fun e H' => e = .ret (Bo true) ∧ H' = H) := by
  have := rpg_ok p p (oksP_of h) (oksP_of h) H
  rwa [pg_refl] at this
theorem samex_of {x : Ex} (h : x.count ≤ 1000) (H : List Blk) : ACalls Tryz.prog 26 [.agg x.cells, .agg x.cells] H (fun e H' => e = .ret (Bo true) ∧ H' = H) := by
  have := rex_ok _ x x (Nat.lt_succ_self _) (by omega) (by omega) H
  rwa [ex_refl] at this
theorem known12_ok (H : List Blk) : ACalls Tryz.prog 7 [] H (fun e H' => e = .ret (Bo true) ∧ H' = H) := by
  refine acalls_tidy (acalls_of_vc (hn := fun _ => false) (od := fun i => if i = 6 then some [(0, []), (1, []), (2, []), (3, []), (4, []), (5, []), (6, [0, 1, 2, 3, 4, 5]), (7, [])] else none) Tryz.func7 rfl (by kernel_rfl) ?_)
  have o1 : w1.OkP := oneU_okP _ (by decide)
  have o2 : w2.OkP := oneU_okP _ (by decide)
  have o3 : w1'.OkP := oneU_okP _ (by decide)
  have hw0 : (IntKind.i64.wrap 0 == 0) = true := by decide
  simp -dsimp
  refine acallsW_det (c12_ok 1 _) ?_
  simp -dsimp
  refine acallsW_det (set12_ok lX (cE 1) _) ?_
  simp -dsimp
  refine acallsW_det (v12_ok lX _) ?_
  simp -dsimp
  refine acallsW_det (v12_ok lP _) ?_
  simp -dsimp
  refine acallsW_det (op12_ok 6 [vE lX, vE lP] _) ?_
  simp -dsimp
  refine acallsW_det (set12_ok lY (opE 6 [vE lX, vE lP]) _) ?_
  simp -dsimp
  refine acallsW_det (v12_ok lX _) ?_
  simp -dsimp
  refine acallsW_det (c12_ok 1 _) ?_
  simp -dsimp
  refine acallsW_det (op12_ok 17 [vE lX, cE 1] _) ?_
  simp -dsimp
  refine acallsW_det (c12_ok 2 _) ?_
  simp -dsimp
  refine acallsW_det (set12_ok lY (cE 2) _) ?_
  simp -dsimp
  refine acallsW_det (c12_ok 3 _) ?_
  simp -dsimp
  refine acallsW_det (set12_ok lY (cE 3) _) ?_
  simp -dsimp
  refine acallsW_of (acalls_weak (args' := [Sm.sl [setS lX (cE 1), setS lY (opE 6 [vE lX, vE lP]), ifS (opE 17 [vE lX, cE 1]) [setS lY (cE 2)] [setS lY (cE 3)]]]) (.cons (.vsR (.cons (.refl _) (.cons (.refl _) (.cons (by repeat first | exact Weak.refl _ | exact Weak.nil _ | exact WeakL.nil | exact WeakR.nil | apply Weak.aggL | apply Weak.vsR | apply WeakL.cons | apply WeakR.cons) .nil)))) .nil) (one12_ok _ _)) ?_
  rintro _ _ ⟨rfl, rfl⟩
  simp -dsimp
  refine acallsW_det (fold_of o1 w1_eq _) ?_
  simp -dsimp
  refine acallsW_det (v12_ok lP _) ?_
  simp -dsimp
  refine acallsW_det (v12_ok lX _) ?_
  simp -dsimp
  refine acallsW_det (c12_ok 1 _) ?_
  simp -dsimp
  refine acallsW_det (op12_ok 6 [vE lX, cE 1] _) ?_
  simp -dsimp
  refine acallsW_det (set12_ok lX (opE 6 [vE lX, cE 1]) _) ?_
  simp -dsimp
  refine acallsW_of (acalls_weak (args' := [Sm.sl [whileS (vE lP) [setS lX (opE 6 [vE lX, cE 1])]]]) (.cons (.vsR (.cons (by repeat first | exact Weak.refl _ | exact Weak.nil _ | exact WeakL.nil | exact WeakR.nil | apply Weak.aggL | apply Weak.vsR | apply WeakL.cons | apply WeakR.cons) .nil)) .nil) (one12_ok _ _)) ?_
  rintro _ _ ⟨rfl, rfl⟩
  simp -dsimp
  refine acallsW_det (fold_of o2 w2_eq _) ?_
  simp -dsimp
  refine acallsW_det (c12_ok 0 _) ?_
  simp -dsimp
  refine callDW_intro (c12_ok 1 _) ?_
  simp -dsimp
  refine callDW_intro (v12_ok lP _) ?_
  simp -dsimp
  refine callDW_intro (op12_ok 21 [cE 1, vE lP, ixE] _) ?_
  simp -dsimp
  refine callDW_intro (fexpr_of (by decide) a_eq _) ?_
  simp -dsimp
  refine ⟨⟨?_, ?_, ?_, ?_⟩, ?_⟩
  · refine callDW_intro (c12_ok 1 _) ?_
    simp -dsimp
  · refine callDW_intro (v12_ok lP _) ?_
    simp -dsimp
  · refine callDW_intro (op12_ok 21 [cE 1, vE lP, ixE] _) ?_
    simp -dsimp
  · refine callDW_intro (fexpr_of (by decide) a_eq _) ?_
    simp -dsimp
  refine acallsW_det (c12_ok 1 _) ?_
  simp -dsimp
  refine acallsW_det (v12_ok lP _) ?_
  simp -dsimp
  refine acallsW_det (v12_ok lQ _) ?_
  simp -dsimp
  refine acallsW_det (op12_ok 21 [cE 1, vE lP, vE lQ] _) ?_
  simp -dsimp
  refine acallsW_det (fexpr_of (by decide) b_eq _) ?_
  simp -dsimp
  refine callDW_intro (num12_ok 0 _) ?_
  simp -dsimp
  refine callDW_intro (num12_ok 0 _) ?_
  simp -dsimp [hw0]
  refine callDW_intro (c12_ok 1 _) ?_
  simp -dsimp
  refine callDW_intro (set12_ok lX (cE 1) _) ?_
  simp -dsimp
  refine callDW_intro (c12_ok 1 _) ?_
  simp -dsimp
  refine callDW_intro (v12_ok lP _) ?_
  simp -dsimp
  refine callDW_intro (op12_ok 6 [cE 1, vE lP] _) ?_
  simp -dsimp
  refine callDW_intro (set12_ok lY (opE 6 [cE 1, vE lP]) _) ?_
  simp -dsimp
  refine callDW_intro (c12_ok 2 _) ?_
  simp -dsimp
  refine callDW_intro (set12_ok lY (cE 2) _) ?_
  simp -dsimp
  refine callDW_intro (one12_ok [setS lX (cE 1), setS lY (opE 6 [cE 1, vE lP]), setS lY (cE 2)] _) ?_
  simp -dsimp
  refine callDW_intro (same_of o3 _) ?_
  simp -dsimp [Tm.kind, Tm.taken]
  refine callDW_intro (same_of o2 _) ?_
  simp -dsimp
  refine callDW_intro (c12_ok 1 _) ?_
  simp -dsimp
  refine callDW_intro (v12_ok lP _) ?_
  simp -dsimp
  refine callDW_intro (op12_ok 21 [cE 1, vE lP, ixE] _) ?_
  simp -dsimp
  refine callDW_intro (samex_of (x := opE 21 [cE 1, vE lP, ixE]) (by decide) _) ?_
  simp -dsimp
  refine callDW_intro (v12_ok lP _) ?_
  simp -dsimp
  refine callDW_intro (samex_of (x := vE lP) (by decide) _) ?_
  simp -dsimp
  exact tidy_same rfl ⟨rfl, rfl⟩
end Go.Proofs
