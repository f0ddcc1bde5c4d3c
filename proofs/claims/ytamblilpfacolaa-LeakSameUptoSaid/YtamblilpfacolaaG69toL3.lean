/- Terms that may be, as the document has them; how deep and how many. -/
import Derived.Test.YtamblilpfacolaaFwYtoG68
import Derived.Test.YtamblilpfacolaaL1
set_option linter.unusedVariables false
set_option linter.unusedSimpArgs false
set_option maxHeartbeats 4000000
set_option maxRecDepth 100000
namespace Go.Proofs
open Go.Mu
theorem rpicks_ok (it : Bool) (l : List (List Pk)) (hl : pkCount l ≤ 2^40) (H : List Blk) : ACalls Try.prog 72 [Pk.sls l, Bo it] H (fun e H' => e = .ret (Bo (picksR it l)) ∧ H' = H) := by
  refine acalls_tidy (acalls_of_awp Try.func72 rfl (by kernel_rfl) ?_)
  have hlen := pk_len l
  obtain ⟨E, hE⟩ : ∃ E, E = picksR it l := ⟨_, rfl⟩
  rw [← hE]
  unfold picksR at hE
  have fin : ∀ b L, b = E → Tidy H (fun e H' => e = .ret (Bo E) ∧ H' = H) (.ret (Bo b)) (H ++ L) := fun b L h => by rw [h]; exact tidy_same rfl ⟨rfl, rfl⟩
  refine awp_cut (fun _ => false) (fun _ => none) (fun f H' => H = H' ∧ f 0 = Pk.sls l ∧ f 1 = Bo it) (by kernel_rfl) ?_ ?_
  · simp -dsimp
  rintro g _ ⟨rfl, g0, g1⟩
  refine awp_cutA (fun f H' => (∃ L, H' = H ++ L) ∧ E = true) ?_ ?_
  rotate_left
  · clear g g0 g1
    rintro g _ ⟨⟨L, rfl⟩, h⟩
    refine awp_all (fun _ => false) (fun _ => none) (by kernel_rfl) ?_
    simp -dsimp
    exact fin _ _ h.symm
  refine awp_cut (fun _ => false) (fun _ => none) (fun f H' => H = H' ∧ f 0 = Pk.sls l ∧ f 1 = Bo it ∧ f 5 = I 0) (by kernel_rfl) ?_ ?_
  · simp -dsimp [g0, g1]
  clear g g0 g1
  rintro g _ ⟨rfl, g0, g1, g5⟩
  refine awp_block ?_
  refine awp_loopI (fun (i : Nat) f H' => (∃ L, H' = H ++ L) ∧ f 0 = Pk.sls l ∧ f 1 = Bo it ∧ f 5 = I i ∧ i ≤ l.length ∧ (l.drop i).all (fun l => l.all (pickR it)) = E) (fun i => l.length - i) 0 ⟨⟨[], by simp⟩, g0, g1, g5, by omega, by rw [hE]; simp⟩ ?_
  clear g g0 g1 g5 hE
  rintro i g _ ⟨⟨L, rfl⟩, g0, g1, g5, hi, hinv⟩
  refine awp_cut (fun _ => false) (fun _ => none) (fun f H' => H' = H ++ L ∧ f 0 = Pk.sls l ∧ f 1 = Bo it ∧ f 5 = I i ∧ i < l.length) (by kernel_rfl) ?_ ?_
  · simp -dsimp [g0, g1, g5]
    refine condVW_introD (fun hlt => ?_) (fun hlt => ?_)
    · simp -dsimp [g0, g1, g5]
      omega
    · rw [drop_end (by omega), List.all_nil] at hinv
      simp -dsimp
      exact hinv.symm
  clear g g0 g1 g5
  rintro g _ ⟨rfl, g0, g1, g5, hlt⟩
  rw [drop_cons hlt, List.all_cons] at hinv
  have hgx := pk_get hlt
  have e1 := List.getElem?_eq_getElem hlt
  obtain ⟨x, hx⟩ : ∃ x, x = l[i] := ⟨_, rfl⟩
  rw [← hx] at hinv e1 hgx
  clear hx
  refine awp_cutA (fun f H' => (∃ L, H' = H ++ L) ∧ f 0 = Pk.sls l ∧ f 1 = Bo it ∧ f 5 = I i ∧ (l.drop (i + 1)).all (fun l => l.all (pickR it)) = E) ?_ ?_
  rotate_left
  · clear g g0 g1 g5
    rintro g _ ⟨⟨L, rfl⟩, g0, g1, g5, hinv⟩
    refine awp_all (fun _ => false) (fun _ => none) (by kernel_rfl) ?_
    simp -dsimp [g0, g1, g5]
    exact ⟨i + 1, by omega, wrapS (by omega), by omega, hinv⟩
  refine awp_block ?_
  obtain ⟨K, hK⟩ : ∃ K, K = (l.drop (i + 1)).all (fun l => l.all (pickR it)) := ⟨_, rfl⟩
  rw [← hK] at hinv ⊢
  refine awp_all (fun _ => false) (fun _ => none) (by kernel_rfl) ?_
  simp -dsimp [g0, g1, g5]
  refine loop_rule (hn := fun _ => false) (od := fun _ => none) (fun (j : Nat) f H' => (∃ L, H' = H ++ L) ∧ f 0 = Pk.sls l ∧ f 1 = Bo it ∧ f 5 = I i ∧ f 6 = I j ∧ j ≤ x.length ∧ ((x.drop j).all (pickR it) && K) = E) (fun j => x.length - j) (by kernel_rfl) 0 (by
    simp [g0, g1, g5]
    simpa using hinv) ?_
  clear g g0 g1 g5 hinv
  rintro j g _ ⟨⟨L, rfl⟩, g0, g1, g5, g6, hj, hinv⟩
  simp -dsimp [g0, g1, g5, g6, e1]
  refine condVW_introD (fun hjt => ?_) (fun hjt => ?_)
  · rw [drop_cons hjt, List.all_cons] at hinv
    have e3 := List.getElem?_eq_getElem hjt
    obtain ⟨p, hp⟩ : ∃ p, p = x[j] := ⟨_, rfl⟩
    rw [← hp] at hinv e3
    clear hp
    obtain ⟨kind, item, word, stack⟩ := p
    have bad : pickR it ⟨kind, item, word, stack⟩ = false → ∀ L, Tidy H (fun e H' => e = .ret (Bo E) ∧ H' = H) (.ret (Bo false)) (H ++ L) := fun h L => fin _ _ (by rw [← hinv, h]; rfl)
    have good : pickR it ⟨kind, item, word, stack⟩ = true → ((x.drop (j + 1)).all (pickR it) && K) = E := fun h => by rw [← hinv, h]; rfl
    unfold pickR pickG itemP at bad good
    simp only at bad good
    clear hinv
    replace bad := Hid.mk bad
    replace good := Hid.mk good
    by_cases h1 : kind < 1
    · simp -dsimp [g0, g1, g5, g6, e1, e3, h1]
      exact bad.out (by rw [decide_eq_false (show ¬ 1 ≤ kind by omega)]; rfl) _
    by_cases h2 : 4 < kind
    · simp -dsimp [g0, g1, g5, g6, e1, e3, h1, h2]
      exact bad.out (by rw [decide_eq_false (show ¬ kind ≤ 4 by omega), Bool.and_false]; rfl) _
    by_cases h3 : item < 0
    · simp -dsimp [g0, g1, g5, g6, e1, e3, h1, h2, h3]
      exact bad.out (by rw [decide_eq_false (show ¬ 0 ≤ item by omega), Bool.and_false]; rfl) _
    have hg : (decide (1 ≤ kind) && decide (kind ≤ 4) && decide (0 ≤ item)) = true := by simp; omega
    rw [hg] at bad good
    cases it
    · by_cases h4 : kind = 1
      · simp -dsimp [g0, g1, g5, g6, e1, e3, h1, h2, h3, h4]
        exact bad.out (by rw [decide_eq_true h4]; rfl) _
      have h4b : (kind == 1) = false := by simpa using h4
      by_cases h5 : kind = 3
      · simp -dsimp [g0, g1, g5, g6, e1, e3, h1, h2, h3, h5]
        exact bad.out (by rw [decide_eq_true h5, Bool.or_true]; rfl) _
      have h5b : (kind == 3) = false := by simpa using h5
      simp -dsimp [g0, g1, g5, g6, e1, e3, h1, h2, h3, h4b, h5b]
      exact ⟨j + 1, by omega, wrapS (by omega), by omega, good.out (by rw [decide_eq_false h4, decide_eq_false h5]; rfl)⟩
    · simp -dsimp [g0, g1, g5, g6, e1, e3, h1, h2, h3]
      exact ⟨j + 1, by omega, wrapS (by omega), by omega, good.out rfl⟩
  · rw [drop_end (by omega), List.all_nil, Bool.true_and] at hinv
    simp -dsimp [g0, g1, g5]
    exact hinv
end Go.Proofs
namespace Go.Proofs
open Go.Mu
theorem tms_le (m : Nat) : (∀ (l : List Tm), tmsCount l ≤ m → tmsParts l ≤ tmsCount l ∧ tmsDeep l ≤ tmsCount l) ∧ (∀ (l : List (List Tm)), tmssCount l ≤ m → tmssParts l ≤ tmssCount l ∧ tmssDeep l ≤ tmssCount l) := by
  induction m with
  | zero =>
    refine ⟨fun l hl => ?_, fun l hl => ?_⟩
    · have := tms_len l; obtain rfl : l = [] := List.eq_nil_of_length_eq_zero (by omega); rw [tmsParts, tmsDeep]; omega
    · have := tmss_len l; obtain rfl : l = [] := List.eq_nil_of_length_eq_zero (by omega); rw [tmssParts, tmssDeep]; omega
  | succ m ih =>
    refine ⟨fun l => ?_, fun l => ?_⟩
    · induction l with
      | nil => intro _; simp [tmsParts, tmsDeep]
      | cons x l ihl =>
        intro hl
        simp only [tmsCount] at hl ⊢
        have hx := Tm.count_eq x
        have h1 := ihl (by omega)
        have h2 := ih.2 x.subs (by omega)
        rw [tmsParts, tmsDeep, Tm.parts_eq, Tm.deep_eq]
        omega
    · induction l with
      | nil => intro _; simp [tmssParts, tmssDeep]
      | cons a l ihl =>
        intro hl
        simp only [tmssCount] at hl ⊢
        have h1 := ihl (by omega)
        have h2 := ih.1 a (by omega)
        rw [tmssParts, tmssDeep]
        omega
theorem tmsParts_le (l : List Tm) : tmsParts l ≤ tmsCount l := ((tms_le _).1 l (Nat.le_refl _)).1
theorem tmsDeep_le (l : List Tm) : tmsDeep l ≤ tmsCount l := ((tms_le _).1 l (Nat.le_refl _)).2
theorem tmssParts_le (l : List (List Tm)) : tmssParts l ≤ tmssCount l := ((tms_le _).2 l (Nat.le_refl _)).1
theorem tmssDeep_le (l : List (List Tm)) : tmssDeep l ≤ tmssCount l := ((tms_le _).2 l (Nat.le_refl _)).2
theorem deepTerms_ok (m : Nat) : ∀ (l : List Tm), tmsCount l < m → tmsCount l ≤ 2^40 → ∀ (H : List Blk), ACalls Try.prog 62 [Tm.sl l] H (fun e H' => e = .ret (.tup [I (tmsDeep l), I (tmsParts l)]) ∧ H' = H) := by
  induction m with
  | zero => intro l h; omega
  | succ m ih =>
    intro l hm hc H
    refine acalls_tidy (acalls_of_awp Try.func62 rfl (by kernel_rfl) ?_)
    have hlen := tms_len l
    obtain ⟨D, hD⟩ : ∃ D, D = tmsDeep l := ⟨_, rfl⟩
    obtain ⟨N, hN⟩ : ∃ N, N = tmsParts l := ⟨_, rfl⟩
    have hDl := tmsDeep_le l
    have hNl := tmsParts_le l
    rw [← hD] at hDl ⊢
    rw [← hN] at hNl ⊢
    refine awp_cut (fun _ => false) (fun _ => none) (fun f H' => H = H' ∧ f 0 = Tm.sl l) (by kernel_rfl) ?_ ?_
    · simp -dsimp
    rintro g _ ⟨rfl, g0⟩
    refine awp_cut (fun _ => false) (fun _ => none) (fun f H' => H = H' ∧ f 0 = Tm.sl l ∧ f 4 = I 0 ∧ f 5 = I 0) (by kernel_rfl) ?_ ?_
    · simp -dsimp [g0]
    clear g g0
    rintro g _ ⟨rfl, g0, g4, g5⟩
    refine awp_cutA (fun f H' => H = H' ∧ f 4 = I D ∧ f 5 = I N) ?_ ?_
    rotate_left
    · clear g g0 g4 g5
      rintro g _ ⟨rfl, g4, g5⟩
      refine awp_all (fun _ => false) (fun _ => none) (by kernel_rfl) ?_
      simp -dsimp [g4, g5]
      exact tidy_now rfl ⟨rfl, rfl⟩
    refine awp_cut (fun _ => false) (fun _ => none) (fun f H' => H = H' ∧ f 0 = Tm.sl l ∧ f 4 = I 0 ∧ f 5 = I 0 ∧ f 6 = I 0) (by kernel_rfl) ?_ ?_
    · simp -dsimp [g0, g4, g5]
    clear g g0 g4 g5
    rintro g _ ⟨rfl, g0, g4, g5, g6⟩
    refine awp_block ?_
    refine awp_loopI (fun (i : Nat) f H' => ∃ d n : Nat, H = H' ∧ f 0 = Tm.sl l ∧ f 4 = I d ∧ f 5 = I n ∧ f 6 = I i ∧ i ≤ l.length ∧ max d (tmsDeep (l.drop i)) = D ∧ n + tmsParts (l.drop i) = N) (fun i => l.length - i) 0 ⟨0, 0, rfl, g0, g4, g5, g6, by omega, by simp [hD], by simp [hN]⟩ ?_
    clear g g0 g4 g5 g6 hD hN
    rintro i g _ ⟨d, n, rfl, g0, g4, g5, g6, hi, hd, hn⟩
    refine awp_cut (fun _ => false) (fun _ => none) (fun f H' => H = H' ∧ f 0 = Tm.sl l ∧ f 4 = I d ∧ f 5 = I n ∧ f 6 = I i ∧ i < l.length) (by kernel_rfl) ?_ ?_
    · simp -dsimp [g0, g4, g5, g6]
      refine condVW_introD (fun hlt => ?_) (fun hlt => ?_)
      · simp -dsimp [g0, g4, g5, g6]
        omega
      · rw [drop_end (by omega), tmsDeep] at hd
        rw [drop_end (by omega), tmsParts] at hn
        obtain rfl : d = D := by omega
        obtain rfl : n = N := by omega
        simp -dsimp [g4, g5]
    clear g g0 g4 g5 g6
    rintro g _ ⟨rfl, g0, g4, g5, g6, hlt⟩
    rw [drop_cons hlt, tmsDeep] at hd
    rw [drop_cons hlt, tmsParts] at hn
    have hgx := tms_get hlt
    have e1 := List.getElem?_eq_getElem hlt
    obtain ⟨x, hx⟩ : ∃ x, x = l[i] := ⟨_, rfl⟩
    rw [← hx] at hd hn e1 hgx
    clear hx
    have hcx := Tm.count_eq x
    have hxs := tmss_len x.subs
    have hxl := pk_len x.lines
    have hp := Tm.parts_eq x
    have hdd := Tm.deep_eq x
    refine awp_cutA (fun f H' => ∃ d n : Nat, H = H' ∧ f 0 = Tm.sl l ∧ f 4 = I d ∧ f 5 = I n ∧ f 6 = I i ∧ max d (tmsDeep (l.drop (i + 1))) = D ∧ n + tmsParts (l.drop (i + 1)) = N) ?_ ?_
    rotate_left
    · clear g g0 g4 g5 g6 hd hn d n
      rintro g _ ⟨d, n, rfl, g0, g4, g5, g6, hd, hn⟩
      refine awp_all (fun _ => false) (fun _ => none) (by kernel_rfl) ?_
      simp -dsimp [g0, g4, g5, g6]
      exact ⟨i + 1, by omega, d, rfl, n, rfl, wrapS (by omega), by omega, hd, hn⟩
    refine awp_block ?_
    obtain ⟨KD, hKD⟩ : ∃ KD, KD = tmsDeep (l.drop (i + 1)) := ⟨_, rfl⟩
    obtain ⟨KN, hKN⟩ : ∃ KN, KN = tmsParts (l.drop (i + 1)) := ⟨_, rfl⟩
    rw [← hKD] at hd ⊢
    rw [← hKN] at hn ⊢
    clear hKD hKN
    refine awp_cut (fun _ => false) (fun _ => none) (fun f H' => H = H' ∧ f 0 = Tm.sl l ∧ f 4 = I d ∧ f 5 = I n ∧ f 6 = I i ∧ f 7 = I 1) (by kernel_rfl) ?_ ?_
    · simp -dsimp [g0, g4, g5, g6]
    clear g g0 g4 g5 g6
    rintro g _ ⟨rfl, g0, g4, g5, g6, g7⟩
    refine awp_cut (fun _ => false) (fun _ => none) (fun f H' => H = H' ∧ f 0 = Tm.sl l ∧ f 4 = I d ∧ f 5 = I (n + 1 : Nat) ∧ f 6 = I i ∧ f 7 = I 1) (by kernel_rfl) ?_ ?_
    · simp -dsimp [g0, g4, g5, g6, g7]
      exact wrapS (by omega)
    clear g g0 g4 g5 g6 g7
    rintro g _ ⟨rfl, g0, g4, g5, g6, g7⟩
    -- its lines
    refine awp_cutA (fun f H' => H = H' ∧ f 0 = Tm.sl l ∧ f 4 = I d ∧ f 5 = I (n + 1 + pkCount x.lines : Nat) ∧ f 6 = I i ∧ f 7 = I 1) ?_ ?_
    · refine awp_all (fun _ => false) (fun _ => none) (by kernel_rfl) ?_
      simp -dsimp [g0, g4, g5, g6, g7]
      refine loop_rule (hn := fun _ => false) (od := fun _ => none) (fun (j : Nat) f H' => ∃ k : Nat, H = H' ∧ f 0 = Tm.sl l ∧ f 4 = I d ∧ f 5 = I k ∧ f 6 = I i ∧ f 7 = I 1 ∧ f 8 = I j ∧ j ≤ x.lines.length ∧ k + pkCount (x.lines.drop j) = n + 1 + pkCount x.lines) (fun j => x.lines.length - j) (by kernel_rfl) 0 (by
        simp [g0, g4, g5, g6, g7]) ?_
      clear g g0 g4 g5 g6 g7
      rintro j g _ ⟨k, rfl, g0, g4, g5, g6, g7, g8, hj, hk⟩
      simp -dsimp [g0, g4, g5, g6, g7, g8, e1]
      refine condVW_introD (fun hjt => ?_) (fun hjt => ?_)
      · have hpd := pk_drop hjt
        rw [hpd] at hk
        clear hpd
        have e3 := List.getElem?_eq_getElem hjt
        obtain ⟨p, hpp⟩ : ∃ p, p = x.lines[j] := ⟨_, rfl⟩
        rw [← hpp] at hk e3
        clear hpp
        simp -dsimp [g0, g4, g5, g6, g7, g8, e1, e3]
        have w1 : IntKind.i64.wrap ((k : Int) + 1) = (k : Int) + 1 := wrapI (by omega) (by omega)
        have w2 : IntKind.i64.wrap ((k : Int) + 1 + p.length) = ((k + 1 + p.length : Nat) : Int) := by rw [wrapI (by omega) (by omega)]; push_cast; rfl
        exact ⟨j + 1, by omega, k + 1 + p.length, by rw [w1, w2], wrapS (by omega), by omega, by omega⟩
      · rw [drop_end (by omega), pkCount] at hk
        simp -dsimp [g0, g4, g5, g6, g7]
        omega
    clear g g0 g4 g5 g6 g7
    rintro g _ ⟨rfl, g0, g4, g5, g6, g7⟩
    -- what lies within
    refine awp_cutA (fun f H' => H = H' ∧ f 0 = Tm.sl l ∧ f 4 = I d ∧ f 5 = I (n + x.parts : Nat) ∧ f 6 = I i ∧ f 7 = I x.deep) ?_ ?_
    · refine awp_all (fun _ => false) (fun _ => none) (by kernel_rfl) ?_
      simp -dsimp [g0, g4, g5, g6, g7]
      refine loop_rule (hn := fun _ => false) (od := fun _ => none) (fun (j : Nat) f H' => ∃ h k : Nat, H = H' ∧ f 0 = Tm.sl l ∧ f 4 = I d ∧ f 5 = I k ∧ f 6 = I i ∧ f 7 = I h ∧ f 9 = I j ∧ j ≤ x.subs.length ∧ k + tmssParts (x.subs.drop j) = n + x.parts ∧ max h (tmssDeep (x.subs.drop j)) = x.deep) (fun j => x.subs.length - j) (by kernel_rfl) 0 (by
        simp [g0, g4, g5, g6, g7]
        exact ⟨1, n + 1 + pkCount x.lines, by push_cast; omega, rfl, by omega, by omega⟩) ?_
      clear g g0 g4 g5 g6 g7
      rintro j g _ ⟨h, k, rfl, g0, g4, g5, g6, g7, g9, hj, hk, hh⟩
      simp -dsimp [g0, g4, g5, g6, g7, g9, e1]
      refine condVW_introD (fun hjt => ?_) (fun hjt => ?_)
      · rw [drop_cons hjt, tmssParts] at hk
        rw [drop_cons hjt, tmssDeep] at hh
        have hgs := tmss_get hjt
        have e3 := List.getElem?_eq_getElem hjt
        obtain ⟨a, ha⟩ : ∃ a, a = x.subs[j] := ⟨_, rfl⟩
        rw [← ha] at hk hh e3 hgs
        clear ha
        have hda := tmsDeep_le a
        have hpa := tmsParts_le a
        have cr := fun H => ih a (by omega) (by omega) H
        simp -dsimp [g0, g4, g5, g6, g7, g9, e1, e3]
        refine acallsW_det (cr _) ?_
        have w1 : IntKind.i64.wrap ((k : Int) + tmsParts a) = ((k + tmsParts a : Nat) : Int) := by rw [wrapI (by omega) (by omega)]; push_cast; rfl
        have w2 : IntKind.i64.wrap ((tmsDeep a : Int) + 1) = ((1 + tmsDeep a : Nat) : Int) := by rw [wrapI (by omega) (by omega)]; push_cast; omega
        simp -dsimp [g0, g4, g5, g6, g7, g9, w1, w2]
        refine condVW_introD (fun hgt => ?_) (fun hgt => ?_)
        · simp -dsimp [g0, g4, g5, g6, g7, g9, w2]
          exact ⟨j + 1, by omega, 1 + tmsDeep a, k + tmsParts a, by push_cast; rfl, by push_cast; rfl, wrapS (by omega), by omega, by omega, by omega⟩
        · simp -dsimp [g0, g4, g5, g6, g7, g9]
          exact ⟨j + 1, by omega, h, k + tmsParts a, by push_cast; rfl, rfl, wrapS (by omega), by omega, by omega, by omega⟩
      · rw [drop_end (by omega), tmssParts] at hk
        rw [drop_end (by omega), tmssDeep] at hh
        simp -dsimp [g0, g4, g5, g6, g7]
        omega
    clear g g0 g4 g5 g6 g7
    rintro g _ ⟨rfl, g0, g4, g5, g6, g7⟩
    refine awp_all (fun _ => false) (fun _ => none) (by kernel_rfl) ?_
    simp -dsimp [g0, g4, g5, g6, g7]
    refine condVW_introD (fun hgt => ?_) (fun hgt => ?_)
    · simp -dsimp [g0, g4, g5, g6, g7]
      exact ⟨x.deep, rfl, n + x.parts, by push_cast; rfl, by omega, by omega⟩
    · simp -dsimp [g0, g4, g5, g6, g7]
      exact ⟨d, rfl, n + x.parts, by push_cast; rfl, by omega, by omega⟩
def smallB (t : List Tm) : Bool := decide (tmsDeep t ≤ 60) && decide (tmsParts t ≤ 3000)
theorem small_ok (t : List Tm) (ht : tmsCount t ≤ 2^40) (H : List Blk) : ACalls Try.prog 21 [Tm.sl t] H (fun e H' => e = .ret (Bo (smallB t)) ∧ H' = H) := by
  refine acalls_tidy (acalls_of_vc (hn := fun _ => false) (od := fun _ => none) Try.func21 rfl (by kernel_rfl) ?_)
  have c := fun H => deepTerms_ok _ t (Nat.lt_succ_self _) ht H
  have fin : ∀ b, b = smallB t → Tidy H (fun e H' => e = .ret (Bo (smallB t)) ∧ H' = H) (.ret (Bo b)) H := fun b h => by rw [h]; exact tidy_now rfl ⟨rfl, rfl⟩
  unfold smallB at fin ⊢
  simp -dsimp
  refine acallsW_det (c _) ?_
  simp -dsimp
  refine guardVW_introTD (fun h1 => ?_) (fun h1 => ?_)
  · simp -dsimp [h1]
    exact fin _ (by rw [decide_eq_true (show tmsDeep t ≤ 60 by omega), Bool.true_and]; congr 1; simp; omega)
  · simp -dsimp [h1]
    exact fin _ (by rw [decide_eq_false (show ¬ tmsDeep t ≤ 60 by omega)]; rfl)
end Go.Proofs
namespace Go.Proofs
open Go.Mu
@[simp] theorem beql4 (a b : Bool) : binE Try.prog .eql 4 (Bo a) (Bo b) = some (Bo (a == b)) := by cases a <;> cases b <;> kernel_rfl
theorem behindR_eq (t : Tm) : behindR t = if t.kind = 7 then (t.subs[1]?.getD []).all (fun y => decide (y.kind = 2) && picksR false y.lines) else true := rfl
theorem rterms_ok (m : Nat) : ∀ (l : List Tm), tmsCount l < m → tmsCount l ≤ 2^40 → ∀ (H : List Blk), ACalls Try.prog 24 [Tm.sl l] H (fun e H' => e = .ret (Bo (tmsGoodR l)) ∧ H' = H) := by
  induction m with
  | zero => intro l h; omega
  | succ m ih =>
    intro l hm hc H
    refine acalls_tidy (acalls_of_awp Try.func24 rfl (by kernel_rfl) ?_)
    have hlen := tms_len l
    obtain ⟨E, hE⟩ : ∃ E, E = tmsGoodR l := ⟨_, rfl⟩
    rw [← hE]
    have fin : ∀ b L, b = E → Tidy H (fun e H' => e = .ret (Bo E) ∧ H' = H) (.ret (Bo b)) (H ++ L) := fun b L h => by rw [h]; exact tidy_same rfl ⟨rfl, rfl⟩
    refine awp_cut (fun _ => false) (fun _ => none) (fun f H' => H = H' ∧ f 0 = Tm.sl l) (by kernel_rfl) ?_ ?_
    · simp -dsimp
    rintro g _ ⟨rfl, g0⟩
    refine awp_cutA (fun f H' => (∃ L, H' = H ++ L) ∧ E = true) ?_ ?_
    rotate_left
    · clear g g0
      rintro g _ ⟨⟨L, rfl⟩, h⟩
      refine awp_all (fun _ => false) (fun _ => none) (by kernel_rfl) ?_
      simp -dsimp
      exact fin _ _ h.symm
    refine awp_cut (fun _ => false) (fun _ => none) (fun f H' => H = H' ∧ f 0 = Tm.sl l ∧ f 3 = I 0) (by kernel_rfl) ?_ ?_
    · simp -dsimp [g0]
    clear g g0
    rintro g _ ⟨rfl, g0, g3⟩
    refine awp_block ?_
    refine awp_loopI (fun (i : Nat) f H' => (∃ L, H' = H ++ L) ∧ f 0 = Tm.sl l ∧ f 3 = I i ∧ i ≤ l.length ∧ tmsGoodR (l.drop i) = E) (fun i => l.length - i) 0 ⟨⟨[], by simp⟩, g0, g3, by omega, by rw [hE]; simp⟩ ?_
    clear g g0 g3 hE
    rintro i g _ ⟨⟨L, rfl⟩, g0, g3, hi, hinv⟩
    refine awp_cut (fun _ => false) (fun _ => none) (fun f H' => H' = H ++ L ∧ f 0 = Tm.sl l ∧ f 3 = I i ∧ i < l.length) (by kernel_rfl) ?_ ?_
    · simp -dsimp [g0, g3]
      refine condVW_introD (fun hlt => ?_) (fun hlt => ?_)
      · simp -dsimp [g0, g3]
        omega
      · rw [drop_end (by omega), tmsGoodR] at hinv
        simp -dsimp
        exact hinv.symm
    clear g g0 g3
    rintro g _ ⟨rfl, g0, g3, hlt⟩
    rw [drop_cons hlt, tmsGoodR, Tm.goodR_eq] at hinv
    have hgx := tms_get hlt
    have e1 := List.getElem?_eq_getElem hlt
    obtain ⟨x, hx⟩ : ∃ x, x = l[i] := ⟨_, rfl⟩
    rw [← hx] at hinv e1 hgx
    clear hx
    have hcx := Tm.count_eq x
    have hxs := tmss_len x.subs
    have hxl := pk_len x.lines
    refine awp_cutA (fun f H' => (∃ L, H' = H ++ L) ∧ f 0 = Tm.sl l ∧ f 3 = I i ∧ tmsGoodR (l.drop (i + 1)) = E) ?_ ?_
    rotate_left
    · clear g g0 g3
      rintro g _ ⟨⟨L, rfl⟩, g0, g3, hinv⟩
      refine awp_all (fun _ => false) (fun _ => none) (by kernel_rfl) ?_
      simp -dsimp [g0, g3]
      exact ⟨i + 1, by omega, wrapS (by omega), by omega, hinv⟩
    refine awp_block ?_
    obtain ⟨K, hK⟩ : ∃ K, K = tmsGoodR (l.drop (i + 1)) := ⟨_, rfl⟩
    rw [← hK] at hinv ⊢
    clear hK
    obtain ⟨V, hV⟩ : ∃ V, V = H ++ (L ++ [.box 76 x.cells]) := ⟨_, rfl⟩
    obtain ⟨u, hu⟩ : ∃ u, u = H.length + L.length := ⟨_, rfl⟩
    refine awp_cut (fun _ => false) (fun _ => none) (fun f H' => V = H' ∧ f 0 = Tm.sl l ∧ f 3 = I i ∧ f 4 = .bp u 0) (by kernel_rfl) ?_ ?_
    · simp -dsimp [g0, g3, e1, hV, hu]
    clear g g0 g3
    rintro g _ ⟨rfl, g0, g3, g4⟩
    have hVx : V[u]? = some (.box 76 x.cells) := by rw [hV, hu]; simp
    have finV : ∀ b, b = E → Tidy H (fun e H' => e = .ret (Bo E) ∧ H' = H) (.ret (Bo b)) V := fun b h => by rw [hV]; exact fin _ _ h
    have hVH : ∃ L', V = H ++ L' := ⟨_, hV⟩
    clear hV hu
    simp only [Tm.cells_eq] at hVx
    obtain ⟨B, hB⟩ : ∃ B, B = behindR x := ⟨_, rfl⟩
    rw [← hB] at hinv
    rw [behindR_eq] at hB
    refine awp_cut (fun _ => false) (fun _ => none) (fun f H' => V = H' ∧ f 0 = Tm.sl l ∧ f 3 = I i ∧ f 4 = .bp u 0 ∧ f 5 = I 0) (by kernel_rfl) ?_ ?_
    · simp -dsimp [g0, g3, g4]
    clear g g0 g3 g4
    rintro g _ ⟨rfl, g0, g3, g4, g5⟩
    -- its kind
    refine awp_cut (fun _ => false) (fun _ => none) (fun f H' => V = H' ∧ f 0 = Tm.sl l ∧ f 3 = I i ∧ f 4 = .bp u 0 ∧ f 5 = I (subsN x.kind x.subs.length : Nat) ∧ kindG x.kind = true) (by kernel_rfl) ?_ ?_
    · replace hinv := Hid.mk hinv
      replace hB := Hid.mk hB
      have sn : ∀ (k : Int) (v : Nat), x.kind = k → subsN k x.subs.length = v → subsN x.kind x.subs.length = v ∧ True := fun k v a b => ⟨by rw [a]; exact b, trivial⟩
      by_cases h : 1 ≤ x.kind ∧ x.kind ≤ 9
      · have hkg : kindG x.kind = true := by unfold kindG; simp; exact h
        have : x.kind = 1 ∨ x.kind = 2 ∨ x.kind = 3 ∨ x.kind = 4 ∨ x.kind = 5 ∨ x.kind = 6 ∨ x.kind = 7 ∨ x.kind = 8 ∨ x.kind = 9 := by omega
        rcases this with h | h | h | h | h | h | h | h | h
        · have := (sn _ 0 h rfl).1
          simp -dsimp [g0, g3, g4, g5, hVx, h]
          rw [h] at this hkg
          exact ⟨by rw [this]; rfl, hkg⟩
        · have := (sn _ 0 h rfl).1
          simp -dsimp [g0, g3, g4, g5, hVx, h]
          rw [h] at this hkg
          exact ⟨by rw [this]; rfl, hkg⟩
        · have := (sn _ 2 h rfl).1
          simp -dsimp [g0, g3, g4, g5, hVx, h]
          rw [h] at this hkg
          exact ⟨by rw [this]; rfl, hkg⟩
        · have := (sn _ 1 h rfl).1
          simp -dsimp [g0, g3, g4, g5, hVx, h]
          rw [h] at this hkg
          exact ⟨by rw [this]; rfl, hkg⟩
        · have := (sn _ 1 h rfl).1
          simp -dsimp [g0, g3, g4, g5, hVx, h]
          rw [h] at this hkg
          exact ⟨by rw [this]; rfl, hkg⟩
        · have := (sn _ x.subs.length h rfl).1
          simp -dsimp [g0, g3, g4, g5, hVx, h]
          rw [h] at this hkg
          exact ⟨by rw [this], hkg⟩
        · have := (sn _ 2 h rfl).1
          simp -dsimp [g0, g3, g4, g5, hVx, h]
          rw [h] at this hkg
          exact ⟨by rw [this]; rfl, hkg⟩
        · have := (sn _ 0 h rfl).1
          simp -dsimp [g0, g3, g4, g5, hVx, h]
          rw [h] at this hkg
          exact ⟨by rw [this]; rfl, hkg⟩
        · have := (sn _ 1 h rfl).1
          simp -dsimp [g0, g3, g4, g5, hVx, h]
          rw [h] at this hkg
          exact ⟨by rw [this]; rfl, hkg⟩
      · have nk : ∀ k : Int, 1 ≤ k → k ≤ 9 → (x.kind == k) = false := fun k a b => by simp; omega
        have hkg : kindG x.kind = false := by unfold kindG; simp; omega
        simp -dsimp [g0, g3, g4, g5, hVx, nk 1 (by omega) (by omega), nk 2 (by omega) (by omega), nk 3 (by omega) (by omega), nk 4 (by omega) (by omega), nk 5 (by omega) (by omega), nk 6 (by omega) (by omega), nk 7 (by omega) (by omega), nk 8 (by omega) (by omega), nk 9 (by omega) (by omega)]
        exact finV false (by rw [← hinv.out, hkg]; rfl)
    clear g g0 g3 g4 g5
    rintro g _ ⟨rfl, g0, g3, g4, g5, hk⟩
    rw [hk, Bool.true_and] at hinv
    -- how many lists, and its lines
    have hsl : (subsN x.kind x.subs.length : Nat) ≤ x.subs.length + 2 := by unfold subsN; (repeat' split) <;> omega
    have cp := fun b H => rpicks_ok b x.lines (by omega) H
    refine awp_cut (fun _ => false) (fun _ => none) (fun f H' => V = H' ∧ f 0 = Tm.sl l ∧ f 3 = I i ∧ f 4 = .bp u 0 ∧ x.subs.length = subsN x.kind x.subs.length ∧ (B && tmssGoodR x.subs && K) = E) (by kernel_rfl) ?_ ?_
    · replace hinv := Hid.mk hinv
      replace hB := Hid.mk hB
      obtain ⟨S, hS⟩ : ∃ S, S = subsN x.kind x.subs.length := ⟨_, rfl⟩
      rw [← hS] at g5 hsl ⊢
      replace hS := Hid.mk hS
      by_cases hn : x.subs.length = S
      · simp -dsimp [g0, g3, g4, g5, hVx, hn]
        refine acallsW_det (cp _ _) ?_
        cases hp : picksR true x.lines
        · simp -dsimp
          exact finV false (by rw [← hinv.out, hp, Bool.and_false]; rfl)
        · simp -dsimp [g0, g3, g4]
          rw [← hinv.out, hp, ← hS.out, decide_eq_true hn]
          rfl
      · have hnb : ((x.subs.length : Int) != (S : Int)) = true := by simp; omega
        simp -dsimp [g0, g3, g4, g5, hVx, hnb]
        exact finV false (by rw [← hinv.out, ← hS.out, decide_eq_false hn]; rfl)
    clear g g0 g3 g4 g5 hinv
    rintro g _ ⟨rfl, g0, g3, g4, hn, hinv⟩
    -- terms behind a call
    refine awp_cut (fun _ => false) (fun _ => none) (fun f H' => V = H' ∧ f 0 = Tm.sl l ∧ f 3 = I i ∧ f 4 = .bp u 0 ∧ (tmssGoodR x.subs && K) = E) (by kernel_rfl) ?_ ?_
    · by_cases h7 : x.kind = 7
      · rw [if_pos h7] at hB
        have h2 : x.subs.length = 2 := by rw [hn, h7]; rfl
        have e2 : x.subs[1]? = some x.subs[1] := List.getElem?_eq_getElem (by omega)
        have hga := tmss_get (show 1 < x.subs.length by omega)
        obtain ⟨a, ha⟩ : ∃ a, a = x.subs[1] := ⟨_, rfl⟩
        rw [← ha] at e2 hga
        clear ha
        rw [e2, Option.getD_some] at hB
        have hal := tms_len a
        clear hn
        replace hinv := Hid.mk hinv
        replace hB := Hid.mk hB
        simp -dsimp [g0, g3, g4, hVx, h7]
        refine loop_rule (hn := fun _ => false) (od := fun _ => none) (fun (j : Nat) f H' => V = H' ∧ f 0 = Tm.sl l ∧ f 3 = I i ∧ f 4 = .bp u 0 ∧ f 6 = I j ∧ j ≤ a.length ∧ (a.drop j).all (fun y => decide (y.kind = 2) && picksR false y.lines) = B) (fun j => a.length - j) (by kernel_rfl) 0 (by
          simp [g0, g3, g4]
          have := hB.out
          simpa using this.symm) ?_
        clear g g0 g3 g4
        rintro j g _ ⟨rfl, g0, g3, g4, g6, hj, hb⟩
        simp -dsimp [g0, g3, g4, g6, hVx, e2]
        refine condVW_introD (fun hjt => ?_) (fun hjt => ?_)
        · rw [drop_cons hjt, List.all_cons] at hb
          have hgy := tms_get hjt
          have e3 := List.getElem?_eq_getElem hjt
          obtain ⟨y, hy⟩ : ∃ y, y = a[j] := ⟨_, rfl⟩
          rw [← hy] at hb e3 hgy
          clear hy
          have hcy := Tm.count_eq y
          have cq := fun b H => rpicks_ok b y.lines (by omega) H
          replace hb := Hid.mk hb
          by_cases hk2 : y.kind = 2
          · simp -dsimp [g0, g3, g4, g6, hVx, e2, e3, hk2]
            refine acallsW_det (cq _ _) ?_
            cases hp : picksR false y.lines
            · simp -dsimp
              exact finV false (by rw [← hinv.out, ← hb.out, hp, Bool.and_false]; rfl)
            · simp -dsimp [g0, g3, g4, g6]
              exact ⟨j + 1, by omega, wrapS (by omega), by omega, by rw [← hb.out, hp, decide_eq_true hk2]; rfl⟩
          · have hkb : (y.kind != 2) = true := by simpa using hk2
            simp -dsimp [g0, g3, g4, g6, hVx, e2, e3, hkb]
            exact finV false (by rw [← hinv.out, ← hb.out, decide_eq_false hk2]; rfl)
        · rw [drop_end (by omega), List.all_nil] at hb
          simp -dsimp [g0, g3, g4]
          rw [← hinv.out, ← hb]
          rfl
      · rw [if_neg h7] at hB
        have hkb : (x.kind == 7) = false := by simpa using h7
        rw [hB, Bool.true_and] at hinv
        replace hinv := Hid.mk hinv
        simp -dsimp [g0, g3, g4, hVx, hkb]
        exact hinv.out
    clear g g0 g3 g4 hinv
    rintro g _ ⟨rfl, g0, g3, g4, hinv⟩
    refine awp_all (fun _ => false) (fun _ => none) (by kernel_rfl) ?_
    simp -dsimp [g0, g3, g4]
    refine loop_rule (hn := fun _ => false) (od := fun _ => none) (fun (j : Nat) f H' => V = H' ∧ f 0 = Tm.sl l ∧ f 3 = I i ∧ f 4 = .bp u 0 ∧ f 7 = I j ∧ j ≤ x.subs.length ∧ (tmssGoodR (x.subs.drop j) && K) = E) (fun j => x.subs.length - j) (by kernel_rfl) 0 (by
      simp [g0, g3, g4]
      simpa using hinv) ?_
    clear g g0 g3 g4 hinv
    rintro j g _ ⟨rfl, g0, g3, g4, g7, hj, hinv⟩
    simp -dsimp [g0, g3, g4, g7, hVx]
    refine condVW_introD (fun hjt => ?_) (fun hjt => ?_)
    · rw [drop_cons hjt, tmssGoodR] at hinv
      have hgs := tmss_get hjt
      have e3 := List.getElem?_eq_getElem hjt
      obtain ⟨a, ha⟩ : ∃ a, a = x.subs[j] := ⟨_, rfl⟩
      rw [← ha] at hinv e3 hgs
      clear ha
      have cr := ih a (by omega) (by omega) V
      simp -dsimp [g0, g3, g4, g7, hVx, e3]
      refine acallsW_det cr ?_
      cases hfa : tmsGoodR a
      · rw [hfa] at hinv
        simp -dsimp
        exact finV false (by rw [← hinv]; rfl)
      · rw [hfa] at hinv
        simp -dsimp [g0, g3, g4, g7]
        exact ⟨j + 1, by omega, wrapS (by omega), by omega, by simpa using hinv⟩
    · rw [drop_end (by omega), tmssGoodR] at hinv
      simp -dsimp [g0, g3, g4]
      exact ⟨hVH, hinv⟩
/-! ### The law -/
theorem lterms_ok (t : List Tm) (ht : tmsCount t ≤ 2^40) (H : List Blk) : ACalls Try.prog 6 [Tm.sl t] H (fun e H' => e = .ret (Bo true) ∧ H' = H) := by
  refine acalls_tidy (acalls_of_vc (hn := fun _ => false) (od := fun _ => none) Try.func6 rfl (by kernel_rfl) ?_)
  have c1 := fun H => small_ok t ht H
  have c2 := fun H => mayTerms_ok t ht H
  have c3 := fun H => rterms_ok _ t (Nat.lt_succ_self _) ht H
  have c4 := fun H => lknown_ok H
  simp -dsimp
  refine acallsW_det (c1 _) ?_
  cases hs : smallB t
  · simp -dsimp
    refine acallsW_det (c4 _) ?_
    simp -dsimp
    exact tidy_now rfl ⟨rfl, rfl⟩
  · unfold smallB at hs
    simp only [Bool.and_eq_true, decide_eq_true_eq] at hs
    have he : termsE t = tmsGoodR t := by rw [termsE_small (by omega) (by omega), tmsGood_same]
    rw [he] at c2
    simp -dsimp
    refine acallsW_det (c2 _) ?_
    simp -dsimp
    refine acallsW_det (c3 _) ?_
    simp -dsimp
    refine acallsW_det (c4 _) ?_
    simp -dsimp
    exact tidy_now rfl ⟨rfl, rfl⟩
end Go.Proofs
namespace Go.Proofs.Ytamblilpfacolaa.Lift
open Go.ChangeShapes Go.WideShapes Go.ChangeAt Go.RowKit Go.Mu Go.Proofs
section
variable {H : Type} {enc : TypeId × Value → H} {cx : Cx}
theorem tells_i (t : TypeId) (h : Try.prog.underlying t = some (.int .i64)) (n : Nat) : Tells enc Try.prog cx n t (fun i : Int => [I i]) (fun _ => 1) (fun _ => True) := (tells_int h).map id (fun _ => rfl) (fun _ => Nat.le_refl _) (fun _ _ => trivial)
theorem tells_iR (t : TypeId) (h : Try.prog.underlying t = some (.int .i64)) (n : Nat) : Tells enc Try.prog cx n t (fun i : Int => [I i]) (fun _ => 1) (fun i => -2^63 ≤ i ∧ i < 2^63) := (tells_int h).map id (fun _ => rfl) (fun _ => Nat.le_refl _) (fun i hi => by
  have h1 : IntKind.i64.min = -2^63 := rfl
  have h2 : IntKind.i64.max = 2^63 - 1 := rfl
  simp only [id, h1, h2] at hi ⊢
  omega)
theorem tells_u (n : Nat) : Tells enc Try.prog cx n 23 (fun i : Int => [U i]) (fun _ => 1) (fun _ => True) := (tells_int (by kernel_rfl)).map id (fun _ => rfl) (fun _ => Nat.le_refl _) (fun _ _ => trivial)
theorem tells_uR (n : Nat) : Tells enc Try.prog cx n 23 (fun i : Int => [U i]) (fun _ => 1) (fun i => 0 ≤ i ∧ i < 2^64) := (tells_int (by kernel_rfl)).map id (fun _ => rfl) (fun _ => Nat.le_refl _) (fun i hi => by
  have h1 : IntKind.u64.min = 0 := rfl
  have h2 : IntKind.u64.max = 2^64 - 1 := rfl
  simp only [id, h1, h2] at hi ⊢
  omega)
theorem tells_b (n : Nat) : Tells enc Try.prog cx n 4 (fun b : Bool => [Bo b]) (fun _ => 1) (fun _ => True) := tells_bool (by kernel_rfl)
theorem tells_us (hΦ : ∀ b, b < cx.w.heap.size → cx.Φ b) : ∀ n, Tells enc Try.prog cx n 46 (fun l : List Int => [U.sl l]) (fun l => l.length + 1) (fun _ => True)
  | 0 => tells_zero
  | n + 1 => (tells_slice (e := 23) (sz := 1) (by kernel_rfl) (by kernel_rfl) (by omega) hΦ (tells_u n)).map id (fun _ => rfl) (fun l => by rw [sizes_one]; exact Nat.le_refl _) (fun _ _ => trivial)
theorem lks_sizes (l : List Lk) : sizes Lk.count l = lksCount l := by
  induction l with
  | nil => rfl
  | cons e l ih => simp only [sizes, List.map_cons, List.sum_cons, lksCount] at ih ⊢; omega
theorem lkss_sizes (l : List (List Lk)) : sizes (fun a => lksCount a + 1) l = lkssCount l := by
  induction l with
  | nil => rfl
  | cons e l ih => simp only [sizes, List.map_cons, List.sum_cons, lkssCount] at ih ⊢; omega
theorem tells_lk (hΦ : ∀ b, b < cx.w.heap.size → cx.Φ b) : ∀ n, Tells enc Try.prog cx n 67 Lk.cells Lk.count (fun _ => True) ∧ Tells enc Try.prog cx n 58 (fun l : List Lk => [Lk.sl l]) (fun l => lksCount l + 1) (fun _ => True) ∧ Tells enc Try.prog cx n 65 (fun l : List (List Lk) => [Lk.sls l]) (fun l => lkssCount l + 1) (fun _ => True)
  | 0 => ⟨tells_zero, tells_zero, tells_zero⟩
  | n + 1 => by
    obtain ⟨h1, h2, h3⟩ := tells_lk hΦ n
    refine ⟨(tells_struct (fl := [(64, 0, 1), (46, 1, 1), (4, 2, 1), (65, 3, 1)]) (by kernel_rfl) (by kernel_rfl)
      (tellsF_cons (tells_i 64 (by kernel_rfl) n) (tellsF_cons (tells_us hΦ n) (tellsF_cons (tells_b n) (tellsF_cons h3 tellsF_nil))))).map (fun (a0, a1, a2, a3, _) => Lk.mk a0 a1 a2 a3) (fun _ => Lk.cells_eq _) (fun ⟨a0, a1, a2, a3, _⟩ => by simp only [Lk.count]; omega) (fun _ _ => trivial), ?_, ?_⟩
    · exact (tells_slice (e := 67) (sz := 4) (by kernel_rfl) (by kernel_rfl) (by omega) hΦ h1).map id (fun _ => rfl) (fun l => by rw [lks_sizes]; exact Nat.le_refl _) (fun _ _ => trivial)
    · exact (tells_slice (e := 58) (sz := 1) (by kernel_rfl) (by kernel_rfl) (by omega) hΦ h2).map id (fun _ => rfl) (fun l => by rw [lkss_sizes]; exact Nat.le_refl _) (fun _ _ => trivial)
theorem tells_pk : ∀ n, Tells enc Try.prog cx n 114 Pk.cells (fun _ => 1) (fun _ => True)
  | 0 => tells_zero
  | n + 1 => (tells_struct (fl := [(112, 0, 1), (3, 1, 1), (23, 2, 1), (4, 3, 1)]) (by kernel_rfl) (by kernel_rfl)
      (tellsF_cons (tells_i 112 (by kernel_rfl) n) (tellsF_cons (tells_i 3 (by kernel_rfl) n) (tellsF_cons (tells_u n) (tellsF_cons (tells_b n) tellsF_nil))))).map (fun (a0, a1, a2, a3, _) => ⟨a0, a1, a2, a3⟩) (fun _ => rfl) (fun ⟨a0, a1, a2, a3, _⟩ => by omega) (fun _ _ => trivial)
theorem tells_pks (hΦ : ∀ b, b < cx.w.heap.size → cx.Φ b) : ∀ n, Tells enc Try.prog cx n 115 (fun l : List Pk => [Pk.sl l]) (fun l => l.length + 1) (fun _ => True)
  | 0 => tells_zero
  | n + 1 => (tells_slice (e := 114) (sz := 4) (by kernel_rfl) (by kernel_rfl) (by omega) hΦ (tells_pk n)).map id (fun _ => rfl) (fun l => by rw [sizes_one]; exact Nat.le_refl _) (fun _ _ => trivial)
theorem pk_sizes (l : List (List Pk)) : sizes (fun a => a.length + 1) l = pkCount l := by
  induction l with
  | nil => rfl
  | cons e l ih => simp only [sizes, List.map_cons, List.sum_cons, pkCount] at ih ⊢; omega
theorem tells_pkss (hΦ : ∀ b, b < cx.w.heap.size → cx.Φ b) : ∀ n, Tells enc Try.prog cx n 74 (fun l : List (List Pk) => [Pk.sls l]) (fun l => pkCount l + 1) (fun _ => True)
  | 0 => tells_zero
  | n + 1 => (tells_slice (e := 115) (sz := 1) (by kernel_rfl) (by kernel_rfl) (by omega) hΦ (tells_pks hΦ n)).map id (fun _ => rfl) (fun l => by rw [pk_sizes]; exact Nat.le_refl _) (fun _ _ => trivial)
theorem tms_sizes (l : List Tm) : sizes Tm.count l = tmsCount l := by
  induction l with
  | nil => rfl
  | cons e l ih => simp only [sizes, List.map_cons, List.sum_cons, tmsCount] at ih ⊢; omega
theorem tmss_sizes (l : List (List Tm)) : sizes (fun a => tmsCount a + 1) l = tmssCount l := by
  induction l with
  | nil => rfl
  | cons e l ih => simp only [sizes, List.map_cons, List.sum_cons, tmssCount] at ih ⊢; omega
theorem tells_tm (hΦ : ∀ b, b < cx.w.heap.size → cx.Φ b) : ∀ n, Tells enc Try.prog cx n 76 Tm.cells Tm.count (fun _ => True) ∧ Tells enc Try.prog cx n 56 (fun l : List Tm => [Tm.sl l]) (fun l => tmsCount l + 1) (fun _ => True) ∧ Tells enc Try.prog cx n 72 (fun l : List (List Tm) => [Tm.sls l]) (fun l => tmssCount l + 1) (fun _ => True)
  | 0 => ⟨tells_zero, tells_zero, tells_zero⟩
  | n + 1 => by
    obtain ⟨h1, h2, h3⟩ := tells_tm hΦ n
    refine ⟨(tells_struct (fl := [(73, 0, 1), (74, 1, 1), (4, 2, 1), (72, 3, 1)]) (by kernel_rfl) (by kernel_rfl)
      (tellsF_cons (tells_i 73 (by kernel_rfl) n) (tellsF_cons (tells_pkss hΦ n) (tellsF_cons (tells_b n) (tellsF_cons h3 tellsF_nil))))).map (fun (a0, a1, a2, a3, _) => Tm.mk a0 a1 a2 a3) (fun _ => Tm.cells_eq _) (fun ⟨a0, a1, a2, a3, _⟩ => by simp only [Tm.count]; omega) (fun _ _ => trivial), ?_, ?_⟩
    · exact (tells_slice (e := 76) (sz := 4) (by kernel_rfl) (by kernel_rfl) (by omega) hΦ h1).map id (fun _ => rfl) (fun l => by rw [tms_sizes]; exact Nat.le_refl _) (fun _ _ => trivial)
    · exact (tells_slice (e := 56) (sz := 1) (by kernel_rfl) (by kernel_rfl) (by omega) hΦ h2).map id (fun _ => rfl) (fun l => by rw [tmss_sizes]; exact Nat.le_refl _) (fun _ _ => trivial)
theorem tells_sn : ∀ n, Tells enc Try.prog cx n 81 Sn.cells (fun _ => 1) (fun s => 0 ≤ s.addr ∧ s.addr < 2^64)
  | 0 => tells_zero
  | n + 1 => (tells_struct (fl := [(4, 0, 1), (4, 1, 1), (23, 2, 1)]) (by kernel_rfl) (by kernel_rfl)
      (tellsF_cons (tells_b n) (tellsF_cons (tells_b n) (tellsF_cons (tells_uR n) tellsF_nil)))).map (fun (a0, a1, a2, _) => ⟨a0, a1, a2⟩) (fun _ => rfl) (fun ⟨a0, a1, a2, _⟩ => by omega) (fun ⟨a0, a1, a2, _⟩ h => h.2.2.1)
theorem tells_sns (hΦ : ∀ b, b < cx.w.heap.size → cx.Φ b) : ∀ n, Tells enc Try.prog cx n 68 (fun l : List Sn => [Sn.sl l]) (fun l => l.length + 1) (fun l => ∀ s ∈ l, 0 ≤ s.addr ∧ s.addr < 2^64)
  | 0 => tells_zero
  | n + 1 => (tells_slice (e := 81) (sz := 3) (by kernel_rfl) (by kernel_rfl) (by omega) hΦ (tells_sn n)).map id (fun _ => rfl) (fun l => by rw [sizes_one]; exact Nat.le_refl _) (fun _ h => h)
end
section
variable {H : Type} {enc : TypeId × Value → H} {W : World} {base : Nat}
theorem arg_lks : ArgOk enc Try.prog W base 58 Lk.sl (fun l => lksCount l + 1) (fun _ => True) := arg_one (one_slice (e := 67) (by kernel_rfl)) fun n => (tells_lk (fun _ h => h) n).2.1
theorem arg_tms : ArgOk enc Try.prog W base 56 Tm.sl (fun l => tmsCount l + 1) (fun _ => True) := arg_one (one_slice (e := 76) (by kernel_rfl)) fun n => (tells_tm (fun _ h => h) n).2.1
theorem arg_sns : ArgOk enc Try.prog W base 68 Sn.sl (fun l => l.length + 1) (fun l => ∀ s ∈ l, 0 ≤ s.addr ∧ s.addr < 2^64) := arg_one (one_slice (e := 81) (by kernel_rfl)) fun n => tells_sns (fun _ h => h) n
theorem arg_us : ArgOk enc Try.prog W base 46 U.sl (fun l => l.length + 1) (fun _ => True) := arg_one (one_slice (e := 23) (by kernel_rfl)) fun n => tells_us (fun _ h => h) n
theorem arg_u : ArgOk enc Try.prog W base 23 (fun i : Int => U i) (fun _ => 1) (fun _ => True) := arg_one (one_int (k := .u64) (by kernel_rfl)) fun n => tells_u n
theorem arg_iR : ArgOk enc Try.prog W base 3 (fun i : Int => I i) (fun _ => 1) (fun i => -2^63 ≤ i ∧ i < 2^63) := arg_one (one_int (k := .i64) (by kernel_rfl)) fun n => tells_iR 3 (by kernel_rfl) n
theorem arg_b : ArgOk enc Try.prog W base 4 (fun b : Bool => Bo b) (fun _ => 1) (fun _ => True) := arg_one (one_bool (by kernel_rfl)) fun n => tells_b n
end
end Go.Proofs.Ytamblilpfacolaa.Lift
