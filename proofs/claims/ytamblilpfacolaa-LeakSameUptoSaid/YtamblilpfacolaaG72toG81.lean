/- How deep leakage nests, and how much there is, as the document has it. -/
import Derived.Test.YtamblilpfacolaaG69toL3
set_option linter.unusedVariables false
set_option linter.unusedSimpArgs false
set_option maxHeartbeats 4000000
set_option maxRecDepth 100000
namespace Go.Proofs
open Go.Mu
theorem lks_deep (m : Nat) : (∀ (l : List Lk), lksCount l ≤ m → lksDeep l ≤ lksCount l) ∧ (∀ (l : List (List Lk)), lkssCount l ≤ m → lkssDeep l ≤ lkssCount l) := by
  induction m with
  | zero =>
    refine ⟨fun l hl => ?_, fun l hl => ?_⟩
    · have := lks_len l; obtain rfl : l = [] := List.eq_nil_of_length_eq_zero (by omega); rw [lksDeep]; omega
    · have := lkss_len l; obtain rfl : l = [] := List.eq_nil_of_length_eq_zero (by omega); rw [lkssDeep]; omega
  | succ m ih =>
    refine ⟨fun l => ?_, fun l => ?_⟩
    · induction l with
      | nil => intro _; simp [lksDeep]
      | cons x l ihl =>
        intro hl
        simp only [lksCount] at hl ⊢
        have hx := Lk.count_eq x
        have h1 := ihl (by omega)
        have h2 := ih.2 x.subs (by omega)
        rw [lksDeep, Lk.deep_eq]
        omega
    · induction l with
      | nil => intro _; simp [lkssDeep]
      | cons a l ihl =>
        intro hl
        simp only [lkssCount] at hl ⊢
        have h1 := ihl (by omega)
        have h2 := ih.1 a (by omega)
        rw [lkssDeep]
        omega
theorem lksDeep_le (l : List Lk) : lksDeep l ≤ lksCount l := (lks_deep _).1 l (Nat.le_refl _)
theorem deep_ok' (m : Nat) : ∀ (l : List Lk), lksCount l < m → lksCount l ≤ 2^40 → ∀ (H : List Blk), ACalls Try.prog 73 [Lk.sl l] H (fun e H' => e = .ret (I (lksDeep l)) ∧ H' = H) := by
  induction m with
  | zero => intro l h; omega
  | succ m ih =>
    intro l hm hc H
    refine acalls_tidy (acalls_of_awp Try.func73 rfl (by kernel_rfl) ?_)
    have hlen := lks_len l
    obtain ⟨D, hD⟩ : ∃ D, D = lksDeep l := ⟨_, rfl⟩
    have hDl := lksDeep_le l
    rw [← hD] at hDl ⊢
    refine awp_cut (fun _ => false) (fun _ => none) (fun f H' => H = H' ∧ f 0 = Lk.sl l) (by kernel_rfl) ?_ ?_
    · simp -dsimp
    rintro g _ ⟨rfl, g0⟩
    refine awp_cut (fun _ => false) (fun _ => none) (fun f H' => H = H' ∧ f 0 = Lk.sl l ∧ f 3 = I 0) (by kernel_rfl) ?_ ?_
    · simp -dsimp [g0]
    clear g g0
    rintro g _ ⟨rfl, g0, g3⟩
    refine awp_cutA (fun f H' => H = H' ∧ f 3 = I D) ?_ ?_
    rotate_left
    · clear g g0 g3
      rintro g _ ⟨rfl, g3⟩
      refine awp_all (fun _ => false) (fun _ => none) (by kernel_rfl) ?_
      simp -dsimp [g3]
      exact tidy_now rfl ⟨rfl, rfl⟩
    refine awp_cut (fun _ => false) (fun _ => none) (fun f H' => H = H' ∧ f 0 = Lk.sl l ∧ f 3 = I 0 ∧ f 4 = I 0) (by kernel_rfl) ?_ ?_
    · simp -dsimp [g0, g3]
    clear g g0 g3
    rintro g _ ⟨rfl, g0, g3, g4⟩
    refine awp_block ?_
    refine awp_loopI (fun (i : Nat) f H' => ∃ d : Nat, H = H' ∧ f 0 = Lk.sl l ∧ f 3 = I d ∧ f 4 = I i ∧ i ≤ l.length ∧ max d (lksDeep (l.drop i)) = D) (fun i => l.length - i) 0 ⟨0, rfl, g0, g3, g4, by omega, by simp [hD]⟩ ?_
    clear g g0 g3 g4 hD
    rintro i g _ ⟨d, rfl, g0, g3, g4, hi, hd⟩
    refine awp_cut (fun _ => false) (fun _ => none) (fun f H' => H = H' ∧ f 0 = Lk.sl l ∧ f 3 = I d ∧ f 4 = I i ∧ i < l.length) (by kernel_rfl) ?_ ?_
    · simp -dsimp [g0, g3, g4]
      refine condVW_introD (fun hlt => ?_) (fun hlt => ?_)
      · simp -dsimp [g0, g3, g4]
        omega
      · rw [drop_end (by omega), lksDeep] at hd
        obtain rfl : d = D := by omega
        simp -dsimp [g3]
    clear g g0 g3 g4
    rintro g _ ⟨rfl, g0, g3, g4, hlt⟩
    rw [drop_cons hlt, lksDeep] at hd
    have hgx := lks_get hlt
    have e1 := List.getElem?_eq_getElem hlt
    obtain ⟨x, hx⟩ : ∃ x, x = l[i] := ⟨_, rfl⟩
    rw [← hx] at hd e1 hgx
    clear hx
    have hcx := Lk.count_eq x
    have hxs := lkss_len x.subs
    have hdd := Lk.deep_eq x
    refine awp_cutA (fun f H' => ∃ d : Nat, H = H' ∧ f 0 = Lk.sl l ∧ f 3 = I d ∧ f 4 = I i ∧ max d (lksDeep (l.drop (i + 1))) = D) ?_ ?_
    rotate_left
    · clear g g0 g3 g4 hd d
      rintro g _ ⟨d, rfl, g0, g3, g4, hd⟩
      refine awp_all (fun _ => false) (fun _ => none) (by kernel_rfl) ?_
      simp -dsimp [g0, g3, g4]
      exact ⟨i + 1, by omega, d, rfl, wrapS (by omega), by omega, hd⟩
    refine awp_block ?_
    obtain ⟨KD, hKD⟩ : ∃ KD, KD = lksDeep (l.drop (i + 1)) := ⟨_, rfl⟩
    rw [← hKD] at hd ⊢
    clear hKD
    refine awp_cut (fun _ => false) (fun _ => none) (fun f H' => H = H' ∧ f 0 = Lk.sl l ∧ f 3 = I d ∧ f 4 = I i ∧ f 5 = I 1) (by kernel_rfl) ?_ ?_
    · simp -dsimp [g0, g3, g4]
    clear g g0 g3 g4
    rintro g _ ⟨rfl, g0, g3, g4, g5⟩
    refine awp_cutA (fun f H' => H = H' ∧ f 0 = Lk.sl l ∧ f 3 = I d ∧ f 4 = I i ∧ f 5 = I x.deep) ?_ ?_
    · refine awp_all (fun _ => false) (fun _ => none) (by kernel_rfl) ?_
      simp -dsimp [g0, g3, g4, g5]
      refine loop_rule (hn := fun _ => false) (od := fun _ => none) (fun (j : Nat) f H' => ∃ h : Nat, H = H' ∧ f 0 = Lk.sl l ∧ f 3 = I d ∧ f 4 = I i ∧ f 5 = I h ∧ f 6 = I j ∧ j ≤ x.subs.length ∧ max h (lkssDeep (x.subs.drop j)) = x.deep) (fun j => x.subs.length - j) (by kernel_rfl) 0 (by
        simp [g0, g3, g4, g5]
        exact ⟨1, rfl, by omega⟩) ?_
      clear g g0 g3 g4 g5
      rintro j g _ ⟨h, rfl, g0, g3, g4, g5, g6, hj, hh⟩
      simp -dsimp [g0, g3, g4, g5, g6, e1]
      refine condVW_introD (fun hjt => ?_) (fun hjt => ?_)
      · rw [drop_cons hjt, lkssDeep] at hh
        have hgs := lkss_get hjt
        have e3 := List.getElem?_eq_getElem hjt
        obtain ⟨a, ha⟩ : ∃ a, a = x.subs[j] := ⟨_, rfl⟩
        rw [← ha] at hh e3 hgs
        clear ha
        have hda := lksDeep_le a
        have cr := fun H => ih a (by omega) (by omega) H
        simp -dsimp [g0, g3, g4, g5, g6, e1, e3]
        refine acallsW_det (cr _) ?_
        have w2 : IntKind.i64.wrap (1 + (lksDeep a : Int)) = ((1 + lksDeep a : Nat) : Int) := by rw [wrapI (by omega) (by omega)]; push_cast; omega
        simp -dsimp [g0, g3, g4, g5, g6, w2]
        refine condVW_introD (fun hgt => ?_) (fun hgt => ?_)
        · simp -dsimp [g0, g3, g4, g5, g6]
          exact ⟨j + 1, by omega, 1 + lksDeep a, by push_cast; rfl, wrapS (by omega), by omega, by omega⟩
        · simp -dsimp [g0, g3, g4, g5, g6]
          exact ⟨j + 1, by omega, h, rfl, wrapS (by omega), by omega, by omega⟩
      · rw [drop_end (by omega), lkssDeep] at hh
        simp -dsimp [g0, g3, g4, g5]
        omega
    clear g g0 g3 g4 g5
    rintro g _ ⟨rfl, g0, g3, g4, g5⟩
    refine awp_all (fun _ => false) (fun _ => none) (by kernel_rfl) ?_
    simp -dsimp [g0, g3, g4, g5]
    refine condVW_introD (fun hgt => ?_) (fun hgt => ?_)
    · simp -dsimp [g0, g3, g4, g5]
      exact ⟨x.deep, rfl, by omega⟩
    · simp -dsimp [g0, g3, g4, g5]
      exact ⟨d, rfl, by omega⟩
theorem count_ok' (m : Nat) : ∀ (l : List Lk), lksCount l < m → lksCount l ≤ 2^40 → ∀ (H : List Blk), ACalls Try.prog 74 [Lk.sl l] H (fun e H' => e = .ret (I (lksParts l)) ∧ H' = H) := by
  induction m with
  | zero => intro l h; omega
  | succ m ih =>
    intro l hm hc H
    refine acalls_tidy (acalls_of_awp Try.func74 rfl (by kernel_rfl) ?_)
    have hlen := lks_len l
    obtain ⟨D, hD⟩ : ∃ D, D = lksParts l := ⟨_, rfl⟩
    have hDl := lksParts_le l
    rw [← hD] at hDl ⊢
    refine awp_cut (fun _ => false) (fun _ => none) (fun f H' => H = H' ∧ f 0 = Lk.sl l) (by kernel_rfl) ?_ ?_
    · simp -dsimp
    rintro g _ ⟨rfl, g0⟩
    refine awp_cut (fun _ => false) (fun _ => none) (fun f H' => H = H' ∧ f 0 = Lk.sl l ∧ f 3 = I 0) (by kernel_rfl) ?_ ?_
    · simp -dsimp [g0]
    clear g g0
    rintro g _ ⟨rfl, g0, g3⟩
    refine awp_cutA (fun f H' => H = H' ∧ f 3 = I D) ?_ ?_
    rotate_left
    · clear g g0 g3
      rintro g _ ⟨rfl, g3⟩
      refine awp_all (fun _ => false) (fun _ => none) (by kernel_rfl) ?_
      simp -dsimp [g3]
      exact tidy_now rfl ⟨rfl, rfl⟩
    refine awp_cut (fun _ => false) (fun _ => none) (fun f H' => H = H' ∧ f 0 = Lk.sl l ∧ f 3 = I 0 ∧ f 4 = I 0) (by kernel_rfl) ?_ ?_
    · simp -dsimp [g0, g3]
    clear g g0 g3
    rintro g _ ⟨rfl, g0, g3, g4⟩
    refine awp_block ?_
    refine awp_loopI (fun (i : Nat) f H' => ∃ d : Nat, H = H' ∧ f 0 = Lk.sl l ∧ f 3 = I d ∧ f 4 = I i ∧ i ≤ l.length ∧ d + lksParts (l.drop i) = D) (fun i => l.length - i) 0 ⟨0, rfl, g0, g3, g4, by omega, by simp [hD]⟩ ?_
    clear g g0 g3 g4 hD
    rintro i g _ ⟨d, rfl, g0, g3, g4, hi, hd⟩
    refine awp_cut (fun _ => false) (fun _ => none) (fun f H' => H = H' ∧ f 0 = Lk.sl l ∧ f 3 = I d ∧ f 4 = I i ∧ i < l.length) (by kernel_rfl) ?_ ?_
    · simp -dsimp [g0, g3, g4]
      refine condVW_introD (fun hlt => ?_) (fun hlt => ?_)
      · simp -dsimp [g0, g3, g4]
        omega
      · rw [drop_end (by omega), lksParts] at hd
        obtain rfl : d = D := by omega
        simp -dsimp [g3]
    clear g g0 g3 g4
    rintro g _ ⟨rfl, g0, g3, g4, hlt⟩
    rw [drop_cons hlt, lksParts] at hd
    have hgx := lks_get hlt
    have e1 := List.getElem?_eq_getElem hlt
    obtain ⟨x, hx⟩ : ∃ x, x = l[i] := ⟨_, rfl⟩
    rw [← hx] at hd e1 hgx
    clear hx
    have hcx := Lk.count_eq x
    have hxs := lkss_len x.subs
    have hdd := Lk.parts_eq x
    refine awp_cutA (fun f H' => ∃ d : Nat, H = H' ∧ f 0 = Lk.sl l ∧ f 3 = I d ∧ f 4 = I i ∧ d + lksParts (l.drop (i + 1)) = D) ?_ ?_
    rotate_left
    · clear g g0 g3 g4 hd d
      rintro g _ ⟨d, rfl, g0, g3, g4, hd⟩
      refine awp_all (fun _ => false) (fun _ => none) (by kernel_rfl) ?_
      simp -dsimp [g0, g3, g4]
      exact ⟨i + 1, by omega, d, rfl, wrapS (by omega), by omega, hd⟩
    refine awp_block ?_
    obtain ⟨KD, hKD⟩ : ∃ KD, KD = lksParts (l.drop (i + 1)) := ⟨_, rfl⟩
    rw [← hKD] at hd ⊢
    clear hKD
    refine awp_cut (fun _ => false) (fun _ => none) (fun f H' => H = H' ∧ f 0 = Lk.sl l ∧ f 3 = I (d + 1 + x.items.length : Nat) ∧ f 4 = I i) (by kernel_rfl) ?_ ?_
    · have w1 : IntKind.i64.wrap ((d : Int) + 1) = (d : Int) + 1 := wrapI (by omega) (by omega)
      have w2 : IntKind.i64.wrap ((d : Int) + 1 + x.items.length) = (d : Int) + 1 + x.items.length := wrapI (by omega) (by omega)
      simp -dsimp [g0, g3, g4, e1, w1, w2]
    clear g g0 g3 g4
    rintro g _ ⟨rfl, g0, g3, g4⟩
    refine awp_all (fun _ => false) (fun _ => none) (by kernel_rfl) ?_
    simp -dsimp [g0, g3, g4]
    refine loop_rule (hn := fun _ => false) (od := fun _ => none) (fun (j : Nat) f H' => ∃ h : Nat, H = H' ∧ f 0 = Lk.sl l ∧ f 3 = I h ∧ f 4 = I i ∧ f 5 = I j ∧ j ≤ x.subs.length ∧ h + lkssParts (x.subs.drop j) + KD = D) (fun j => x.subs.length - j) (by kernel_rfl) 0 (by
      simp [g0, g3, g4]
      exact ⟨d + 1 + x.items.length, by push_cast; rfl, by omega⟩) ?_
    clear g g0 g3 g4
    rintro j g _ ⟨h, rfl, g0, g3, g4, g5, hj, hh⟩
    simp -dsimp [g0, g3, g4, g5, e1]
    refine condVW_introD (fun hjt => ?_) (fun hjt => ?_)
    · rw [drop_cons hjt, lkssParts] at hh
      have hgs := lkss_get hjt
      have e3 := List.getElem?_eq_getElem hjt
      obtain ⟨a, ha⟩ : ∃ a, a = x.subs[j] := ⟨_, rfl⟩
      rw [← ha] at hh e3 hgs
      clear ha
      have hda := lksParts_le a
      have cr := fun H => ih a (by omega) (by omega) H
      simp -dsimp [g0, g3, g4, g5, e1, e3]
      refine acallsW_det (cr _) ?_
      have w2 : IntKind.i64.wrap ((h : Int) + lksParts a) = ((h + lksParts a : Nat) : Int) := by rw [wrapI (by omega) (by omega)]; push_cast; rfl
      simp -dsimp [g0, g3, g4, g5, w2]
      exact ⟨j + 1, by omega, h + lksParts a, by push_cast; rfl, wrapS (by omega), by omega, by omega⟩
    · rw [drop_end (by omega), lkssParts] at hh
      simp -dsimp [g0, g3, g4]
      exact ⟨h, rfl, by omega⟩
def fewB (l : List Lk) : Bool := decide (lksDeep l ≤ 60) && decide (lksParts l ≤ 3000)
theorem few_ok (l : List Lk) (hl : lksCount l ≤ 2^40) (H : List Blk) : ACalls Try.prog 25 [Lk.sl l] H (fun e H' => e = .ret (Bo (fewB l)) ∧ H' = H) := by
  refine acalls_tidy (acalls_of_vc (hn := fun _ => false) (od := fun _ => none) Try.func25 rfl (by kernel_rfl) ?_)
  have c1 := fun H => deep_ok' _ l (Nat.lt_succ_self _) hl H
  have c2 := fun H => count_ok' _ l (Nat.lt_succ_self _) hl H
  have fin : ∀ b, b = fewB l → Tidy H (fun e H' => e = .ret (Bo (fewB l)) ∧ H' = H) (.ret (Bo b)) H := fun b h => by rw [h]; exact tidy_now rfl ⟨rfl, rfl⟩
  unfold fewB at fin ⊢
  simp -dsimp
  refine acallsW_det (c1 _) ?_
  simp -dsimp
  refine guardVW_introTD (fun h1 => ?_) (fun h1 => ?_)
  · simp -dsimp [h1]
    refine acallsW_det (c2 _) ?_
    simp -dsimp [h1]
    exact fin _ (by rw [decide_eq_true (show lksDeep l ≤ 60 by omega), Bool.true_and]; congr 1; simp; omega)
  · simp -dsimp [h1]
    exact fin _ (by rw [decide_eq_false (show ¬ lksDeep l ≤ 60 by omega)]; rfl)
end Go.Proofs
namespace Go.Proofs
open Go.Mu
/-! ### What comes of something that ends well -/
theorem Rw.bind_inv {α β : Type} {r : Rw α} {f : α → Int → Rw β} {o : β} {m : Int} (h : r.bind f = .ok o m) : ∃ a k, r = .ok a k ∧ f a k = .ok o m := by
  cases r with
  | err e => cases h
  | ok a k => exact ⟨a, k, rfl, h⟩
theorem Rw.pre_inv {α : Type} {r : Rw (List α)} {d o : List α} {m : Int} (h : r.pre d = .ok o m) : ∃ o', r = .ok o' m ∧ o = d ++ o' := by
  cases r with
  | err e => cases h
  | ok a k => cases h; exact ⟨a, rfl, rfl⟩
theorem Rw.get_inv {α β : Type} {x : Option α} {f : α → Rw β} {o : β} {m : Int} (h : Rw.get x f = .ok o m) : ∃ a, x = some a ∧ f a = .ok o m := by
  cases x with
  | none => cases h
  | some a => exact ⟨a, rfl, h⟩
theorem add_inv {k n m : Int} {u : Unit} (h : addR k n = .ok u m) : m = n + k ∧ m ≤ 1000000 := by
  unfold addR at h
  split at h
  · cases h
  · cases h; exact ⟨rfl, by omega⟩
theorem lksCount_app (a b : List Lk) : lksCount (a ++ b) = lksCount a + lksCount b := by
  induction a with
  | nil => simp [lksCount]
  | cons x a ih => rw [List.cons_append, lksCount, lksCount, ih]; omega
theorem lksCount_one (x : Lk) : lksCount [x] = x.count := by rw [lksCount, lksCount]; omega
/-! ### How much -/
def Bnd (n : Int) (c : Nat) (r : Rw (List Lk)) : Prop := ∀ o m, r = .ok o m → (lksCount o : Int) + 2 * n ≤ 2 * m + c
theorem bnd_lines (st : Int) (items : List Int) : ∀ (ls : List (List Pk)) (n : Int), Bnd n 0 (linesM st items ls n)
  | [], n => fun o m h => by cases h; simp [lksCount]
  | l :: ls, n => fun o m h => by
    rw [linesM] at h
    split at h
    · cases h
    · obtain ⟨_, k, h1, h2⟩ := Rw.bind_inv h
      obtain ⟨rfl, _⟩ := add_inv h1
      obtain ⟨o', h3, rfl⟩ := Rw.pre_inv h2
      have := bnd_lines st items ls _ o' m h3
      rw [lksCount_app, lksCount_one, Lk.count_eq]
      simp only [Lk.items, Lk.subs, lkssCount]
      omega
theorem items_inv {t : Tm} {x : Lk} {n m : Int} {its : List Int} (h : itemsM t x n = .ok its m) : n + 1 + its.length ≤ m := by
  unfold itemsM at h
  split at h
  · obtain ⟨_, k, h1, h2⟩ := Rw.bind_inv h
    obtain ⟨rfl, _⟩ := add_inv h1
    cases h2; simp
  · obtain ⟨_, k, h1, h2⟩ := Rw.bind_inv h
    obtain ⟨rfl, _⟩ := add_inv h1
    cases h2; omega
theorem of_inv {x : Lk} {kind : Int} {l : List Lk} (h : ofO x kind = some l) : 1 + lksCount l ≤ lkssCount x.subs := by
  unfold ofO at h
  split at h
  · obtain ⟨hl, rfl⟩ := List.getElem?_eq_some_iff.1 h
    exact lkss_get hl
  · cases h
section
variable {rec : Rec} {st : Int} {br : Bool} (hr : ∀ t deep l n, Bnd n (lksCount l) (rec t deep l n))
include hr
theorem bnd_loopGo (t : Tm) (deep : Nat) : ∀ (l : List Lk) (n : Int), Bnd n (lksCount l) (loopGo rec st t deep l n)
  | [], n => fun o m h => by cases h; simp [lksCount]
  | y :: l, n => fun o m h => by
    rw [loopGo] at h
    obtain ⟨list, h1, h⟩ := Rw.get_inv h
    obtain ⟨a, n1, h2, h⟩ := Rw.bind_inv h
    obtain ⟨its, n2, h3, h⟩ := Rw.bind_inv h
    obtain ⟨body, n3, h4, h⟩ := Rw.bind_inv h
    obtain ⟨o', h5, rfl⟩ := Rw.pre_inv h
    have b1 := of_inv h1
    have b2 := bnd_lines _ _ _ _ _ _ h2
    have b3 := items_inv h3
    have b5 := bnd_loopGo t deep l _ _ _ h5
    have b4 : (lksCount body : Int) + 2 * n2 ≤ 2 * n3 + lksCount list := by
      split at h4
      · obtain ⟨u, _, h4⟩ := Rw.get_inv h4
        exact hr _ _ _ _ _ _ h4
      · cases h4; simp [lksCount]; omega
    have hy := Lk.count_eq y
    rw [lksCount_app, lksCount_app, lksCount_one, Lk.count_eq]
    simp only [Lk.items, Lk.subs, lkssCount, lksCount]
    omega
theorem bnd_roundsGo (deep : Nat) : ∀ (ts : List (List Tm)) (ss : List (List Lk)) (n : Int), Bnd n (lkssCount ss) (roundsGo rec deep ts ss n)
  | ts, [], n => fun o m h => by rw [roundsGo] at h; cases h; simp [lksCount, lkssCount]
  | [], _ :: _, n => fun o m h => by rw [roundsGo] at h; cases h
  | u :: ts, s :: ss, n => fun o m h => by
    rw [roundsGo] at h
    obtain ⟨a, n1, h2, h⟩ := Rw.bind_inv h
    obtain ⟨o', h5, rfl⟩ := Rw.pre_inv h
    have b2 := hr _ _ _ _ _ _ h2
    have b5 := bnd_roundsGo deep ts ss _ _ _ h5
    rw [lksCount_app]
    simp only [lkssCount]
    omega
omit hr in
theorem bnd_behind : ∀ (l : List Tm) (n : Int), Bnd n 0 (behindGo st l n)
  | [], n => fun o m h => by cases h; simp [lksCount]
  | y :: l, n => fun o m h => by
    rw [behindGo] at h
    obtain ⟨a, n1, h2, h⟩ := Rw.bind_inv h
    obtain ⟨o', h5, rfl⟩ := Rw.pre_inv h
    have b2 := bnd_lines _ _ _ _ _ _ h2
    have b5 := bnd_behind l _ _ _ h5
    rw [lksCount_app]
    omega
theorem bnd_eachGo (t : Tm) (deep : Nat) : ∀ (l : List (List Lk)) (n : Int) o m, eachGo rec t deep l n = .ok o m → (lkssCount o : Int) + 2 * n ≤ 2 * m + lkssCount l
  | [], n, o, m, h => by cases h; simp [lkssCount]
  | s :: l, n, o, m, h => by
    rw [eachGo] at h
    obtain ⟨u, _, h⟩ := Rw.get_inv h
    obtain ⟨a, n1, h2, h⟩ := Rw.bind_inv h
    obtain ⟨o', h5, rfl⟩ := Rw.pre_inv h
    have b2 := hr _ _ _ _ _ _ h2
    have b5 := bnd_eachGo t deep l _ _ _ h5
    simp only [List.singleton_append, lkssCount]
    omega
theorem bnd_node (t : Tm) (deep : Nat) (x : Lk) (n : Int) : Bnd n x.count (nodeM rec st br t deep x n) := by
  have hx := Lk.count_eq x
  intro o m h
  unfold nodeM at h
  repeat' split at h
  · unfold sameM at h
    split at h
    · cases h
    · rename_i hz
      obtain ⟨_, k, h1, h2⟩ := Rw.bind_inv h
      obtain ⟨rfl, _⟩ := add_inv h1
      cases h2
      have hz : (lksTop deep [x] (0, 0)).1 = 0 := by simpa using hz
      have : 0 ≤ (lksTop deep [x] (0, 0)).2 := by
        unfold lksTop at hz ⊢
        rw [if_neg (by simp)] at hz ⊢
        split at hz
        · cases hz
        · rename_i h1
          rw [if_neg h1]
          have := (walk_ge _).1 [x] (Nat.le_refl _) deep (0, 0) hz
          simp only at this
          omega
      rw [lksCount_one]
      omega
  · have := bnd_lines _ _ _ _ _ _ h
    omega
  · unfold branchM at h
    obtain ⟨list, h1, h⟩ := Rw.get_inv h
    split at h
    · cases h
    obtain ⟨a, n1, h2, h⟩ := Rw.bind_inv h
    obtain ⟨its, n2, h3, h⟩ := Rw.bind_inv h
    obtain ⟨u, _, h⟩ := Rw.get_inv h
    obtain ⟨body, n3, h4, h⟩ := Rw.bind_inv h
    cases h
    have b1 := of_inv h1
    have b2 := bnd_lines _ _ _ _ _ _ h2
    have b3 := items_inv h3
    have b4 := hr _ _ _ _ _ _ h4
    rw [lksCount_app, lksCount_one, Lk.count_eq]
    simp only [Lk.items, Lk.subs, lkssCount]
    omega
  · unfold takenM at h
    obtain ⟨list, h1, h⟩ := Rw.get_inv h
    split at h
    · cases h
    obtain ⟨a, n1, h2, h⟩ := Rw.bind_inv h
    obtain ⟨u, _, h⟩ := Rw.get_inv h
    obtain ⟨o', h5, rfl⟩ := Rw.pre_inv h
    have b1 := of_inv h1
    have b2 := bnd_lines _ _ _ _ _ _ h2
    have b4 := hr _ _ _ _ _ _ h5
    rw [lksCount_app]
    omega
  · unfold loopM at h
    obtain ⟨_, k, h1, h⟩ := Rw.bind_inv h
    obtain ⟨rfl, _⟩ := add_inv h1
    obtain ⟨l, h2, h⟩ := Rw.get_inv h
    obtain ⟨out, n2, h3, h⟩ := Rw.bind_inv h
    obtain ⟨u, _, h⟩ := Rw.get_inv h
    cases h
    have b1 := of_inv h2
    have b3 := bnd_loopGo hr _ _ _ _ _ _ h3
    rw [lksCount_one, Lk.count_eq]
    simp only [Lk.items, Lk.subs, lkssCount, List.length_nil]
    omega
  · unfold roundsM at h
    split at h
    · cases h
    have := bnd_roundsGo hr _ _ _ _ _ _ h
    omega
  · unfold callM at h
    obtain ⟨list, h1, h⟩ := Rw.get_inv h
    obtain ⟨bh, _, h⟩ := Rw.get_inv h
    obtain ⟨a, n1, h2, h⟩ := Rw.bind_inv h
    obtain ⟨u, _, h⟩ := Rw.get_inv h
    obtain ⟨body, n3, h4, h⟩ := Rw.bind_inv h
    have b1 := of_inv h1
    have b2 := bnd_lines _ _ _ _ _ _ h2
    have b4 := hr _ _ _ _ _ _ h4
    split at h
    · cases h
      rw [lksCount_app]
      omega
    · obtain ⟨o', h5, rfl⟩ := Rw.pre_inv h
      have b5 := bnd_behind _ _ _ _ h5
      rw [lksCount_app, lksCount_app]
      omega
  · cases h
    simp [lksCount]
    omega
  · unfold eachM at h
    split at h
    · cases h
    obtain ⟨_, k, h1, h⟩ := Rw.bind_inv h
    obtain ⟨rfl, _⟩ := add_inv h1
    obtain ⟨out, n2, h3, h⟩ := Rw.bind_inv h
    cases h
    have b3 := bnd_eachGo hr _ _ _ _ _ _ h3
    rw [lksCount_one, Lk.count_eq]
    simp only [Lk.items, Lk.subs, List.length_nil]
    omega
  · cases h
theorem bnd_go (deep : Nat) : ∀ (ts : List Tm) (l : List Lk) (n : Int), Bnd n (lksCount l) (goM rec st br deep ts l n)
  | ts, [], n => fun o m h => by rw [goM] at h; cases h; simp [lksCount]
  | [], _ :: _, n => fun o m h => by rw [goM] at h; cases h
  | t :: ts, x :: l, n => fun o m h => by
    rw [goM] at h
    obtain ⟨a, n1, h2, h⟩ := Rw.bind_inv h
    obtain ⟨o', h5, rfl⟩ := Rw.pre_inv h
    have b2 := bnd_node hr _ _ _ _ _ _ h2
    have b5 := bnd_go deep ts l _ _ _ h5
    rw [lksCount_app]
    simp only [lksCount]
    omega
end
theorem bnd_list (st : Int) (br : Bool) : ∀ (m : Nat) t deep l n, Bnd n (lksCount l) (listM st br m t deep l n)
  | 0, t, deep, l, n => fun o m h => by cases h
  | m + 1, t, deep, l, n => fun o k h => by
    simp only [listM] at h
    split at h
    · cases h
    · exact bnd_go (bnd_list st br m) _ _ _ _ _ _ h
/-! ### Nothing more is made than may be -/
def Most (r : Rw (List Lk)) : Prop := ∀ o m, r = .ok o m → m ≤ 1000000
/-! ### What ends well ends alike as broken off -/
def Le {α : Type} (r s : Rw α) : Prop := ∀ o m, r = .ok o m → s = .ok o m
theorem le_refl' {α : Type} (r : Rw α) : Le r r := fun _ _ h => h
theorem le_bind {α β : Type} {r s : Rw α} {f g : α → Int → Rw β} (h : Le r s) (hf : ∀ a k, r = .ok a k → Le (f a k) (g a k)) : Le (r.bind f) (s.bind g) := fun o m e => by
  obtain ⟨a, k, h1, h2⟩ := Rw.bind_inv e
  rw [h a k h1, Rw.bind_ok]
  exact hf a k h1 o m h2
theorem le_pre {α : Type} {r s : Rw (List α)} (d : List α) (h : Le r s) : Le (r.pre d) (s.pre d) := le_bind h fun _ _ _ => le_refl' _
theorem le_get {α β : Type} {x : Option α} {f g : α → Rw β} (h : ∀ a, Le (f a) (g a)) : Le (Rw.get x f) (Rw.get x g) := by
  cases x with
  | none => exact le_refl' _
  | some a => exact h a
theorem le_err {α : Type} (e : Int) (s : Rw α) : Le (.err e) s := fun o m h => by cases h
section
variable {rec sec : Rec} {st : Int} (hr : ∀ t deep l n, Le (rec t deep l n) (sec t deep l n)) (hl : ∀ t deep l n o m, rec t deep l n = .ok o m → l.length = t.length)
include hr
theorem le_loopGo (t : Tm) (deep : Nat) : ∀ (l : List Lk) (n : Int), Le (loopGo rec st t deep l n) (loopGo sec st t deep l n)
  | [], n => le_refl' _
  | y :: l, n => by
    rw [loopGo, loopGo]
    refine le_get fun list => le_bind (le_refl' _) fun a n1 _ => le_bind (le_refl' _) fun its n2 _ => le_bind ?_ fun body n3 _ => le_pre _ (le_loopGo t deep l n3)
    split
    · exact le_get fun u => hr _ _ _ _
    · exact le_refl' _
theorem le_roundsGo (deep : Nat) : ∀ (ts : List (List Tm)) (ss : List (List Lk)) (n : Int), Le (roundsGo rec deep ts ss n) (roundsGo sec deep ts ss n)
  | ts, [], n => by rw [roundsGo, roundsGo]; exact le_refl' _
  | [], _ :: _, n => by rw [roundsGo, roundsGo]; exact le_refl' _
  | u :: ts, s :: ss, n => by rw [roundsGo, roundsGo]; exact le_bind (hr _ _ _ _) fun a n1 _ => le_pre _ (le_roundsGo deep ts ss n1)
theorem le_eachGo (t : Tm) (deep : Nat) : ∀ (l : List (List Lk)) (n : Int), Le (eachGo rec t deep l n) (eachGo sec t deep l n)
  | [], n => le_refl' _
  | s :: l, n => by rw [eachGo, eachGo]; exact le_get fun u => le_bind (hr _ _ _ _) fun a n1 _ => le_pre _ (le_eachGo t deep l n1)
include hl
theorem le_node (t : Tm) (deep : Nat) (x : Lk) (n : Int) : Le (nodeM rec st false t deep x n) (nodeM sec st true t deep x n) := by
  unfold nodeM
  repeat' split
  · exact le_refl' _
  · exact le_refl' _
  · unfold branchM
    refine le_get fun list => ?_
    split
    · exact le_refl' _
    · exact le_bind (le_refl' _) fun a n1 _ => le_bind (le_refl' _) fun its n2 _ => le_get fun u => le_bind (hr _ _ _ _) fun body n3 _ => le_refl' _
  · unfold takenM
    refine le_get fun list => ?_
    split
    · exact le_refl' _
    · exact le_bind (le_refl' _) fun a n1 _ => le_get fun u => le_pre _ (hr _ _ _ _)
  · unfold loopM
    exact le_bind (le_refl' _) fun _ n1 _ => le_get fun l => le_bind (le_loopGo hr _ _ _ _) fun out n2 _ => le_refl' _
  · unfold roundsM
    split
    · exact le_err _ _
    · rename_i h
      rw [if_neg (fun h2 => h (by
        rcases h2 with h2 | h2 | h2
        · exact .inl h2
        · exact .inr (.inl h2)
        · exact absurd h2.2 (by simp)))]
      exact le_roundsGo hr _ _ _ _
  · unfold callM
    refine le_get fun list => le_get fun bh => le_bind (le_refl' _) fun out n1 _ => le_get fun u => le_bind (hr _ _ _ _) fun body n2 hb => ?_
    have := hl _ _ _ _ _ _ hb
    rw [if_neg (by simp), if_neg (by omega)]
    exact le_refl' _
  · exact le_refl' _
  · unfold eachM
    split
    · exact le_refl' _
    · exact le_bind (le_refl' _) fun _ n1 _ => le_bind (le_eachGo hr _ _ _ _) fun ss n2 _ => le_refl' _
  · exact le_refl' _
theorem le_go (deep : Nat) : ∀ (ts : List Tm) (l : List Lk) (n : Int), Le (goM rec st false deep ts l n) (goM sec st true deep ts l n)
  | ts, [], n => by rw [goM, goM]; exact le_refl' _
  | [], _ :: _, n => by rw [goM, goM]; exact le_refl' _
  | t :: ts, x :: l, n => by rw [goM, goM]; exact le_bind (le_node hr hl _ _ _ _) fun a n1 _ => le_pre _ (le_go deep ts l n1)
/-- Of a beginning comes a beginning. -/
theorem go_take (deep : Nat) : ∀ (ts : List Tm) (l : List Lk) (j : Nat) (n : Int) o m, goM rec st false deep ts l n = .ok o m → ∃ y z k, goM sec st true deep ts (l.take j) n = .ok y k ∧ o = y ++ z
  | ts, l, 0, n, o, m, h => ⟨[], o, n, by rw [List.take_zero, goM], rfl⟩
  | ts, [], j + 1, n, o, m, h => by rw [goM] at h; cases h; exact ⟨[], [], n, by rw [List.take_nil, goM], rfl⟩
  | [], _ :: _, j + 1, n, o, m, h => by rw [goM] at h; cases h
  | t :: ts, x :: l, j + 1, n, o, m, h => by
    rw [goM] at h
    obtain ⟨a, n1, h2, h⟩ := Rw.bind_inv h
    obtain ⟨o', h5, rfl⟩ := Rw.pre_inv h
    obtain ⟨y, z, k, h6, rfl⟩ := go_take deep ts l j n1 o' m h5
    refine ⟨a ++ y, z, k, ?_, by rw [List.append_assoc]⟩
    rw [List.take_succ_cons, goM, le_node hr hl _ _ _ _ _ _ h2, Rw.bind_ok, h6, Rw.pre_ok]
end
theorem list_len {st : Int} {m : Nat} {t : List Tm} {deep : Nat} {l : List Lk} {n : Int} {o : List Lk} {k : Int} (h : listM st false m t deep l n = .ok o k) : l.length = t.length := by
  cases m with
  | zero => cases h
  | succ m =>
    simp only [listM] at h
    split at h
    · cases h
    · rename_i hh
      rcases Nat.lt_trichotomy l.length t.length with h1 | h1 | h1
      · exact absurd (.inr ⟨h1, trivial⟩) hh
      · exact h1
      · exact absurd (.inl h1) hh
theorem le_list (st : Int) : ∀ (m : Nat) t deep l n, Le (listM st false m t deep l n) (listM st true m t deep l n)
  | 0, t, deep, l, n => le_refl' _
  | m + 1, t, deep, l, n => by
    simp only [listM]
    split
    · exact le_err _ _
    · rename_i h
      rw [if_neg (fun h2 => h (by
        rcases h2 with h2 | h2
        · exact .inl h2
        · exact absurd h2.2 (by simp)))]
      exact le_go (le_list st m) (fun _ _ _ _ _ _ h => list_len h) _ _ _ _
theorem list_take {st : Int} {m : Nat} {t : List Tm} {deep : Nat} {l : List Lk} {n : Int} {o : List Lk} {k : Int} (h : listM st false m t deep l n = .ok o k) (j : Nat) : ∃ y z k', listM st true m t deep (l.take j) n = .ok y k' ∧ o = y ++ z := by
  have hlen := list_len h
  cases m with
  | zero => cases h
  | succ m =>
    simp only [listM] at h ⊢
    split at h
    · cases h
    rw [if_neg (fun h2 => by
      rcases h2 with h2 | h2
      · rw [List.length_take] at h2; omega
      · exact absurd h2.2 (by simp))]
    exact go_take (le_list st m) (fun _ _ _ _ _ _ h => list_len h) _ _ _ _ _ _ _ h
end Go.Proofs
namespace Go.Proofs
open Go.Mu
theorem deep_take : ∀ (l : List Lk) (j : Nat), lksDeep (l.take j) ≤ lksDeep l
  | l, 0 => by simp [lksDeep]
  | [], j + 1 => by simp
  | x :: l, j + 1 => by rw [List.take_succ_cons, lksDeep, lksDeep]; have := deep_take l j; omega
theorem parts_take : ∀ (l : List Lk) (j : Nat), lksParts (l.take j) ≤ lksParts l
  | l, 0 => by simp [lksParts]
  | [], j + 1 => by simp
  | x :: l, j + 1 => by rw [List.take_succ_cons, lksParts, lksParts]; have := parts_take l j; omega
theorem count_take : ∀ (l : List Lk) (j : Nat), lksCount (l.take j) ≤ lksCount l
  | l, 0 => by simp [lksCount]
  | [], j + 1 => by simp
  | x :: l, j + 1 => by rw [List.take_succ_cons, lksCount, lksCount]; have := count_take l j; omega
theorem fits_take : ∀ (l : List Lk) (j : Nat), lksFits l = true → lksFits (l.take j) = true
  | l, 0, _ => by simp [lksFits]
  | [], j + 1, h => by simpa using h
  | x :: l, j + 1, h => by
    rw [lksFits, Bool.and_eq_true] at h
    rw [List.take_succ_cons, lksFits, h.1, fits_take l j h.2]; rfl
theorem why_take {l : List Lk} (h1 : lksDeep l ≤ 512) (h2 : lksParts l ≤ 1000000) (h : whyE l = 0) (j : Nat) : whyE (l.take j) = 0 := by
  have hd := deep_take l j
  have hp := parts_take l j
  rw [why_small h1 h2] at h
  rw [why_small (by omega) (by omega)]
  split at h
  · rename_i hf
    rw [fits_take l j hf]; rfl
  · cases h
theorem rew_err {st : Int} {br : Bool} {m : Nat} {t : List Tm} {l : List Lk} (h : (rewE st br m t l).2 ≠ 0) : (rewE st br m t l).1 = [] := by
  unfold rewE at h ⊢
  split
  · rfl
  · rename_i h1
    split
    · rfl
    · rename_i h2
      rw [if_neg h1, if_neg h2] at h
      unfold listC at h
      unfold listO
      simp only at h ⊢
      split
      · rfl
      · rename_i h3; rw [h3] at h; exact absurd rfl h
theorem rew_inv {st : Int} {br : Bool} {m : Nat} {t : List Tm} {l : List Lk} (h : (rewE st br m t l).2 = 0) : whyE l = 0 ∧ termsE t = true ∧ ∃ o k, listM st br m t 1 l 0 = .ok o k ∧ (rewE st br m t l).1 = o := by
  unfold rewE at h ⊢
  split at h
  · rename_i h1; exact absurd h h1
  · rename_i h1
    have h1 : whyE l = 0 := by simpa using h1
    split at h
    · cases h
    · rename_i h2
      have h2 : termsE t = true := by simpa using h2
      refine ⟨h1, h2, ?_⟩
      rw [if_neg (by simp [h1]), if_neg (by simp [h2])]
      have hnz := nz_list st br m t 1 l 0
      unfold listC at h
      unfold listO
      cases hc : listM st br m t 1 l 0 with
      | err e => rw [hc] at h; exact absurd h (hnz e hc)
      | ok o k => exact ⟨o, k, rfl, rfl⟩
theorem rew_of {st : Int} {br : Bool} {m : Nat} {t : List Tm} {l o : List Lk} {k : Int} (h1 : whyE l = 0) (h2 : termsE t = true) (h3 : listM st br m t 1 l 0 = .ok o k) : rewE st br m t l = (o, 0) := by
  unfold rewE
  rw [if_neg (by simp [h1]), if_neg (by simp [h2])]
  unfold listC listO
  rw [h3]
/-! ### Nothing more is made than may be -/
def Mst {α : Type} (n : Int) (r : Rw α) : Prop := n ≤ 1000000 → ∀ o m, r = .ok o m → m ≤ 1000000
theorem mst_ok {α : Type} (x : α) (n : Int) : Mst n (.ok x n) := fun hn o m h => by cases h; exact hn
theorem mst_err {α : Type} (n e : Int) : Mst n (.err e : Rw α) := fun hn o m h => by cases h
theorem mst_bind {α β : Type} {n : Int} {r : Rw α} {f : α → Int → Rw β} (h : Mst n r) (hf : ∀ a k, Mst k (f a k)) : Mst n (r.bind f) := fun hn o m e => by
  obtain ⟨a, k, h1, h2⟩ := Rw.bind_inv e
  exact hf a k (h hn a k h1) o m h2
theorem mst_pre {α : Type} {n : Int} {r : Rw (List α)} (d : List α) (h : Mst n r) : Mst n (r.pre d) := mst_bind h fun _ _ => mst_ok _ _
theorem mst_get {α β : Type} {n : Int} {x : Option α} {f : α → Rw β} (h : ∀ a, Mst n (f a)) : Mst n (Rw.get x f) := by
  cases x with
  | none => exact mst_err _ _
  | some a => exact h a
theorem mst_add (k n : Int) : Mst n (addR k n) := fun hn o m h => (add_inv h).2
theorem mst_lines (st : Int) (items : List Int) : ∀ (ls : List (List Pk)) (n : Int), Mst n (linesM st items ls n)
  | [], n => mst_ok _ _
  | l :: ls, n => by
    rw [linesM]
    split
    · exact mst_err _ _
    · exact mst_bind (mst_add _ _) fun _ n => mst_pre _ (mst_lines st items ls n)
theorem mst_items (t : Tm) (x : Lk) (n : Int) : Mst n (itemsM t x n) := by
  unfold itemsM
  split
  · exact mst_bind (mst_add _ _) fun _ n => mst_ok _ _
  · exact mst_bind (mst_add _ _) fun _ n => mst_ok _ _
section
variable {rec : Rec} {st : Int} {br : Bool} (hr : ∀ t deep l n, Mst n (rec t deep l n))
include hr
theorem mst_loopGo (t : Tm) (deep : Nat) : ∀ (l : List Lk) (n : Int), Mst n (loopGo rec st t deep l n)
  | [], n => mst_ok _ _
  | y :: l, n => mst_get fun list => mst_bind (mst_lines _ _ _ _) fun a n => mst_bind (mst_items _ _ _) fun its n => mst_bind (by
      split
      · exact mst_get fun u => hr _ _ _ _
      · exact mst_ok _ _) fun body n => mst_pre _ (mst_loopGo t deep l n)
theorem mst_roundsGo (deep : Nat) : ∀ (ts : List (List Tm)) (ss : List (List Lk)) (n : Int), Mst n (roundsGo rec deep ts ss n)
  | ts, [], n => by rw [roundsGo]; exact mst_ok _ _
  | [], _ :: _, n => by rw [roundsGo]; exact mst_err _ _
  | u :: ts, s :: ss, n => by rw [roundsGo]; exact mst_bind (hr _ _ _ _) fun a n => mst_pre _ (mst_roundsGo deep ts ss n)
omit hr in
theorem mst_behind : ∀ (l : List Tm) (n : Int), Mst n (behindGo st l n)
  | [], n => mst_ok _ _
  | y :: l, n => mst_bind (mst_lines _ _ _ _) fun a n => mst_pre _ (mst_behind l n)
theorem mst_eachGo (t : Tm) (deep : Nat) : ∀ (l : List (List Lk)) (n : Int), Mst n (eachGo rec t deep l n)
  | [], n => mst_ok _ _
  | s :: l, n => mst_get fun u => mst_bind (hr _ _ _ _) fun a n => mst_pre _ (mst_eachGo t deep l n)
theorem mst_node (t : Tm) (deep : Nat) (x : Lk) (n : Int) : Mst n (nodeM rec st br t deep x n) := by
  unfold nodeM
  repeat' split
  · unfold sameM
    split
    · exact mst_err _ _
    · exact mst_bind (mst_add _ _) fun _ n => mst_ok _ _
  · exact mst_lines _ _ _ _
  · refine mst_get fun list => ?_
    split
    · exact mst_err _ _
    · exact mst_bind (mst_lines _ _ _ _) fun out n => mst_bind (mst_items _ _ _) fun its n => mst_get fun u => mst_bind (hr _ _ _ _) fun b n => mst_ok _ _
  · refine mst_get fun list => ?_
    split
    · exact mst_err _ _
    · exact mst_bind (mst_lines _ _ _ _) fun out n => mst_get fun u => mst_pre _ (hr _ _ _ _)
  · exact mst_bind (mst_add _ _) fun _ n => mst_get fun l => mst_bind (mst_loopGo hr _ _ _ _) fun out n => mst_get fun _ => mst_ok _ _
  · unfold roundsM
    split
    · exact mst_err _ _
    · exact mst_roundsGo hr _ _ _ _
  · refine mst_get fun list => mst_get fun b => mst_bind (mst_lines _ _ _ _) fun out n => mst_get fun u => mst_bind (hr _ _ _ _) fun body n => ?_
    split
    · exact mst_ok _ _
    · exact mst_pre _ (mst_behind _ _)
  · exact mst_ok _ _
  · unfold eachM
    split
    · exact mst_err _ _
    · exact mst_bind (mst_add _ _) fun _ n => mst_bind (mst_eachGo hr _ _ _ _) fun ss n => mst_ok _ _
  · exact mst_err _ _
theorem mst_go (deep : Nat) : ∀ (ts : List Tm) (l : List Lk) (n : Int), Mst n (goM rec st br deep ts l n)
  | ts, [], n => by rw [goM]; exact mst_ok _ _
  | [], _ :: _, n => by rw [goM]; exact mst_err _ _
  | t :: ts, x :: l, n => by rw [goM]; exact mst_bind (mst_node hr _ _ _ _) fun a n => mst_pre _ (mst_go deep ts l n)
end
theorem mst_list (st : Int) (br : Bool) : ∀ (m : Nat) t deep l n, Mst n (listM st br m t deep l n)
  | 0, t, deep, l, n => mst_err _ _
  | m + 1, t, deep, l, n => by
    simp only [listM]
    split
    · exact mst_err _ _
    · exact mst_go (mst_list st br m) _ _ _ _
/-- What a rewriting came to is not too much: as many as were counted. -/
theorem rew_count (st : Int) (br : Bool) (m : Nat) (t : List Tm) (l : List Lk) : lksCount (rewE st br m t l).1 ≤ 2000000 + lksCount l := by
  by_cases h : (rewE st br m t l).2 = 0
  · obtain ⟨_, _, o, k, h1, h2⟩ := rew_inv h
    rw [h2]
    have hb := bnd_list st br m t 1 l 0 o k h1
    have hk := mst_list st br m t 1 l 0 (by omega) o k h1
    omega
  · rw [rew_err h]; simp [lksCount]
theorem lbroken_ok (t : List Tm) (l : List Lk) (st : Int) (n : Int) (ht : tmsCount t ≤ 2^30) (hl : lksCount l ≤ 2^30) (H : List Blk) :
    ACalls Try.prog 7 [Tm.sl t, Lk.sl l, U st, I n] H (fun e H' => e = .ret (Bo true) ∧ H' = H) := by
  refine acalls_tidy (acalls_of_vc (hn := fun _ => false) (od := fun _ => none) Try.func7 rfl (by kernel_rfl) ?_)
  have c1 := fun H => few_ok l (by omega) H
  have c2 := fun H => small_ok t (by omega) H
  have c4 := fun H => lknown_ok H
  have hlen := lks_len l
  simp -dsimp
  refine acallsW_det (c1 _) ?_
  cases hf : fewB l
  · simp -dsimp
    refine acallsW_det (c4 _) ?_
    simp -dsimp
    exact tidy_now rfl ⟨rfl, rfl⟩
  simp -dsimp
  refine acallsW_det (c2 _) ?_
  cases hs : smallB t
  · simp -dsimp
    refine acallsW_det (c4 _) ?_
    simp -dsimp
    exact tidy_now rfl ⟨rfl, rfl⟩
  unfold fewB at hf
  simp only [Bool.and_eq_true, decide_eq_true_eq] at hf
  by_cases h0 : n < 0
  · simp -dsimp [h0]
    refine acallsW_det (c4 _) ?_
    simp -dsimp
    exact tidy_now rfl ⟨rfl, rfl⟩
  by_cases h1 : (l.length : Int) < n
  · simp -dsimp [h0, h1]
    refine acallsW_det (c4 _) ?_
    simp -dsimp
    exact tidy_now rfl ⟨rfl, rfl⟩
  obtain ⟨j, rfl⟩ : ∃ j : Nat, n = j := ⟨n.toNat, by omega⟩
  have hj : j ≤ l.length := by omega
  obtain ⟨m, hm⟩ : ∃ m, m = lksCount l + 1 := ⟨_, rfl⟩
  have c5 := fun H => rewrite_ok st false m t l (by omega) (by omega) (by omega) H
  have hct := count_take l j
  have c6 := fun H => rewrite_ok st true m t (l.take j) (by omega) (by omega) (by omega) H
  have k1 := rew_count st false m t l
  have k2 := rew_count st true m t (l.take j)
  have hre : (rewE st false m t l).2 ≠ 0 → (rewE st false m t l).1 = [] := fun h => rew_err h
  have hrt : (rewE st false m t l).2 = 0 → (rewE st true m t (l.take j)).2 = 0 ∧ ∃ z, (rewE st false m t l).1 = (rewE st true m t (l.take j)).1 ++ z := fun h => by
    obtain ⟨h2, h3, o, k, h4, h5⟩ := rew_inv h
    obtain ⟨y, z, k', h6, h7⟩ := list_take h4 j
    rw [rew_of (why_take (by omega) (by omega) h2 j) h3 h6, h5]
    exact ⟨rfl, z, h7⟩
  obtain ⟨R, hR⟩ : ∃ R, R = rewE st false m t l := ⟨_, rfl⟩
  obtain ⟨S, hS⟩ : ∃ S, S = rewE st true m t (l.take j) := ⟨_, rfl⟩
  rw [← hR] at c5 k1 hre hrt
  rw [← hS] at c6 k2 hrt
  clear hR hS
  obtain ⟨X, e⟩ := R
  obtain ⟨Y, e2⟩ := S
  simp only at hre hrt k1 k2 c5 c6
  simp only [Lk.sl, List.map_take] at c6
  simp -dsimp [h0, h1]
  refine acallsW_det (c5 _) ?_
  simp -dsimp
  refine condVW_introNE (fun h2 h2a h2b => ?_) (fun h2 => ?_)
  · obtain rfl := hre h2
    simp -dsimp
    refine acallsW_det (c4 _) ?_
    simp -dsimp
    exact tidy_now rfl ⟨rfl, rfl⟩
  · obtain ⟨rfl, z, rfl⟩ := hrt h2
    have hyl := lks_len Y
    have hzl := lks_len z
    rw [lksCount_app] at k1
    have c7 := fun H => rsame_ok _ Y Y (Nat.lt_succ_self _) (by omega) (by omega) H
    rw [lksEq_refl] at c7
    have hle : (Y.length : Int) ≤ (Y.length : Int) + (z.length : Int) := by omega
    have htk : List.take Y.length ((Y ++ z).map Lk.cells) = Y.map Lk.cells := by rw [List.map_append, List.take_append_of_le_length (by simp), List.take_of_length_le (by simp)]
    simp -dsimp [h0, h1, hj]
    refine acallsW_det (c6 _) ?_
    simp -dsimp [hle, htk]
    refine acallsW_det (c7 _) ?_
    simp -dsimp
    refine acallsW_det (c4 _) ?_
    simp -dsimp
    exact tidy_now rfl ⟨rfl, rfl⟩
end Go.Proofs
namespace Go.Proofs
open Go.Mu
def hasIn (x : Lk) : Bool := decide (x.subs.length = 1) && decide (0 < (x.subs.headD []).length)
def loopR : List Lk → Bool
  | [] => true
  | x :: l => if x.kind = 1 then loopR l else if x.kind ≠ 2 then false else if x.taken = false ∧ (l ≠ [] ∨ hasIn x = true) then false else loopR l
theorem rloop_ok (l : List Lk) (hl : lksCount l ≤ 2^40) (H : List Blk) : ACalls Try.prog 83 [Lk.sl l] H (fun e H' => e = .ret (Bo (loopR l)) ∧ H' = H) := by
  refine acalls_tidy (acalls_of_vc (hn := fun _ => false) (od := fun _ => none) Try.func83 rfl (by kernel_rfl) ?_)
  have hlen := lks_len l
  obtain ⟨E, hE⟩ : ∃ E, E = loopR l := ⟨_, rfl⟩
  rw [← hE]
  have fin : ∀ b, b = E → Tidy H (fun e H' => e = .ret (Bo E) ∧ H' = H) (.ret (Bo b)) H := fun b h => by rw [h]; exact tidy_now rfl ⟨rfl, rfl⟩
  simp -dsimp
  refine loop_rule (hn := fun _ => false) (od := fun _ => none) (fun (i : Nat) f H' => H = H' ∧ f 0 = Lk.sl l ∧ f 3 = I i ∧ i ≤ l.length ∧ loopR (l.drop i) = E) (fun i => l.length - i) (by kernel_rfl) 0 (by simp [hE]) ?_
  rintro i g _ ⟨rfl, g0, g3, hi, hinv⟩
  simp -dsimp [g0, g3]
  refine condVW_introD (fun hlt => ?_) (fun hlt => ?_)
  · rw [drop_cons hlt, loopR] at hinv
    have hgx := lks_get hlt
    have e1 := List.getElem?_eq_getElem hlt
    have hdl : (l.drop (i + 1)).length = l.length - (i + 1) := List.length_drop ..
    obtain ⟨x, hx⟩ : ∃ x, x = l[i] := ⟨_, rfl⟩
    rw [← hx] at hinv e1 hgx
    clear hx
    have hcx := Lk.count_eq x
    have hxs := lkss_len x.subs
    by_cases k1 : x.kind = 1
    · rw [if_pos k1] at hinv
      simp -dsimp [g0, g3, e1, k1]
      exact ⟨i + 1, by omega, wrapS (by omega), by omega, hinv⟩
    rw [if_neg k1] at hinv
    have b1 : (x.kind == 1) = false := by simpa using k1
    by_cases k2 : x.kind = 2
    rotate_left
    · rw [if_pos k2] at hinv
      have b2 : (x.kind != 2) = true := by simpa using k2
      simp -dsimp [g0, g3, e1, b1, b2]
      exact fin false hinv
    rw [if_neg (fun h => h k2)] at hinv
    cases ht : x.taken
    rotate_left
    · rw [if_neg (by rw [ht]; simp)] at hinv
      simp -dsimp [g0, g3, e1, b1, k2, ht]
      exact ⟨i + 1, by omega, wrapS (by omega), by omega, hinv⟩
    have wl : IntKind.i64.wrap ((l.length : Int) - 1) = (l.length : Int) - 1 := wrapI (by omega) (by omega)
    by_cases hil : i + 1 = l.length
    rotate_left
    · rw [if_pos ⟨ht, .inl (by intro h; rw [h] at hdl; simp at hdl; omega)⟩] at hinv
      have b3 : ((i : Int) != (l.length : Int) - 1) = true := by simp; omega
      simp -dsimp [g0, g3, e1, b1, k2, ht, wl, b3]
      exact fin false hinv
    have hnil : l.drop (i + 1) = [] := List.drop_eq_nil_of_le (by omega)
    have b3 : ((i : Int) != (l.length : Int) - 1) = false := by simp; omega
    by_cases hs1 : x.subs.length = 1
    rotate_left
    · have hh : hasIn x = false := by unfold hasIn; rw [decide_eq_false hs1]; rfl
      rw [if_neg (by rw [hnil, hh]; simp)] at hinv
      have b4 : ((x.subs.length : Int) == 1) = false := by simp; omega
      simp -dsimp [g0, g3, e1, b1, k2, ht, wl, b3, b4]
      exact ⟨i + 1, by omega, wrapS (by omega), by omega, hinv⟩
    obtain ⟨a, ha⟩ : ∃ a, x.subs = [a] := by
      match hh : x.subs, hs1 with
      | [a], _ => exact ⟨a, rfl⟩
    have hal : a.length ≤ 2^40 := by
      rw [ha, lkssCount, lkssCount] at hcx
      have := lks_len a
      omega
    have hh : hasIn x = decide (0 < a.length) := by unfold hasIn; rw [decide_eq_true hs1, ha]; rfl
    rw [hh, hnil] at hinv
    by_cases h0 : 0 < a.length
    · rw [if_pos ⟨ht, .inr (decide_eq_true h0)⟩] at hinv
      have b5 : (0 : Int) < (a.length : Int) := by omega
      simp -dsimp [g0, g3, e1, b1, k2, ht, wl, b3, ha, h0, b5]
      exact fin false hinv
    · rw [if_neg (fun h => by
        rcases h.2 with h | h
        · exact h rfl
        · exact h0 (of_decide_eq_true h))] at hinv
      have b5 : ¬ (0 : Int) < (a.length : Int) := by omega
      simp -dsimp [g0, g3, e1, b1, k2, ht, wl, b3, ha, h0, b5]
      exact ⟨i + 1, by omega, wrapS (by omega), by omega, by rw [hnil]; exact hinv⟩
  · rw [drop_end (by omega), loopR] at hinv
    simp -dsimp
    exact fin true hinv
theorem loopB_over (l : List Lk) : loopB true l = decide (l = []) := by
  cases l with
  | nil => rfl
  | cons x l =>
    rw [loopB]
    simp
theorem loop_same : ∀ l : List Lk, loopB false l = loopR l
  | [] => rfl
  | x :: l => by
    rw [loopB, loopR]
    by_cases h1 : x.kind = 1
    · rw [if_pos h1, if_pos h1, if_neg (by simp)]
      exact loop_same l
    · rw [if_neg h1, if_neg h1]
      by_cases h2 : x.kind = 2
      · rw [if_pos h2, if_neg (show ¬ (false = true) by simp), if_neg (show ¬ ¬ x.kind = 2 from fun h => h h2)]
        unfold hasIn
        cases ht : x.taken
        · simp only [Bool.not_false, Bool.true_and, true_and, loopB_over]
          cases hh : (decide (x.subs.length = 1) && decide (0 < (x.subs.headD []).length))
          · cases l with
            | nil => simp [loopR]
            | cons y l => simp
          · simp
        · simp [loop_same l]
      · rw [if_neg h2, if_pos h2]
/-- Is each node as it should be? -/
theorem rfits_ok (m : Nat) : ∀ (l : List Lk), lksCount l < m → lksCount l ≤ 2^40 → ∀ (H : List Blk),
    ACalls Try.prog 31 [Lk.sl l] H (fun e H' => e = .ret (Bo (lksFits l)) ∧ H' = H) := by
  induction m with
  | zero => intro l h; omega
  | succ m ih =>
    intro l hm hc H
    refine acalls_tidy (acalls_of_awp Try.func31 rfl (by kernel_rfl) ?_)
    have hlen := lks_len l
    obtain ⟨E, hE⟩ : ∃ E, E = lksFits l := ⟨_, rfl⟩
    rw [← hE]
    have fin : ∀ b L, b = E → Tidy H (fun e H' => e = .ret (Bo E) ∧ H' = H) (.ret (Bo b)) (H ++ L) := fun b L h => by rw [h]; exact tidy_same rfl ⟨rfl, rfl⟩
    refine awp_cut (fun _ => false) (fun _ => none) (fun f H' => H = H' ∧ f 0 = Lk.sl l) (by kernel_rfl) ?_ ?_
    · simp -dsimp
    rintro g _ ⟨rfl, g0⟩
    refine awp_cutA (fun f H' => (∃ L, H' = H ++ L) ∧ E = true) ?_ ?_
    rotate_left
    · clear g g0
      rintro g _ ⟨⟨L, rfl⟩, h⟩
      refine awp_all (fun _ => false) (fun _ => none) (by kernel_rfl) ?_
      simp -dsimp
      exact fin _ _ h.symm
    refine awp_cut (fun _ => false) (fun _ => none) (fun f H' => H = H' ∧ f 0 = Lk.sl l ∧ f 3 = I 0) (by kernel_rfl) ?_ ?_
    · simp -dsimp [g0]
    clear g g0
    rintro g _ ⟨rfl, g0, g3⟩
    refine awp_block ?_
    refine awp_loopI (fun (i : Nat) f H' => (∃ L, H' = H ++ L) ∧ f 0 = Lk.sl l ∧ f 3 = I i ∧ i ≤ l.length ∧ lksFits (l.drop i) = E) (fun i => l.length - i) 0 ⟨⟨[], by simp⟩, g0, g3, by omega, by rw [hE]; simp⟩ ?_
    clear g g0 g3 hE
    rintro i g _ ⟨⟨L, rfl⟩, g0, g3, hi, hinv⟩
    refine awp_cut (fun _ => false) (fun _ => none) (fun f H' => H' = H ++ L ∧ f 0 = Lk.sl l ∧ f 3 = I i ∧ i < l.length) (by kernel_rfl) ?_ ?_
    · simp -dsimp [g0, g3]
      refine condVW_introD (fun hlt => ?_) (fun hlt => ?_)
      · simp -dsimp [g0, g3]
        omega
      · rw [drop_end (by omega), lksFits] at hinv
        simp -dsimp
        exact hinv.symm
    clear g g0 g3
    rintro g _ ⟨rfl, g0, g3, hlt⟩
    rw [drop_cons hlt, lksFits, Lk.fits_eq] at hinv
    have hgx := lks_get hlt
    have e1 := List.getElem?_eq_getElem hlt
    obtain ⟨x, hx⟩ : ∃ x, x = l[i] := ⟨_, rfl⟩
    rw [← hx] at hinv e1 hgx
    clear hx
    have hcx := Lk.count_eq x
    have hls := lkss_len x.subs
    refine awp_cutA (fun f H' => (∃ L, H' = H ++ L) ∧ f 0 = Lk.sl l ∧ f 3 = I i ∧ lksFits (l.drop (i + 1)) = E) ?_ ?_
    rotate_left
    · clear g g0 g3
      rintro g _ ⟨⟨L, rfl⟩, g0, g3, hinv⟩
      refine awp_all (fun _ => false) (fun _ => none) (by kernel_rfl) ?_
      simp -dsimp [g0, g3]
      exact ⟨i + 1, by omega, wrapS (by omega), by omega, hinv⟩
    refine awp_block ?_
    obtain ⟨K, hK⟩ : ∃ K, K = lksFits (l.drop (i + 1)) := ⟨_, rfl⟩
    rw [← hK] at hinv ⊢
    clear hK
    obtain ⟨V, hV⟩ : ∃ V, V = H ++ (L ++ [.box 67 x.cells]) := ⟨_, rfl⟩
    obtain ⟨u, hu⟩ : ∃ u, u = H.length + L.length := ⟨_, rfl⟩
    refine awp_cut (fun _ => false) (fun _ => none) (fun f H' => V = H' ∧ f 0 = Lk.sl l ∧ f 3 = I i ∧ f 4 = .bp u 0) (by kernel_rfl) ?_ ?_
    · simp -dsimp [g0, g3, e1, hV, hu]
    clear g g0 g3
    rintro g _ ⟨rfl, g0, g3, g4⟩
    have hVx : V[u]? = some (.box 67 x.cells) := by rw [hV, hu]; simp
    have finV : ∀ b, b = E → Tidy H (fun e H' => e = .ret (Bo E) ∧ H' = H) (.ret (Bo b)) V := fun b h => by rw [hV]; exact fin _ _ h
    have hVH : ∃ L', V = H ++ L' := ⟨_, hV⟩
    clear hV hu
    simp only [Lk.cells_eq] at hVx
    refine awp_cut (fun _ => false) (fun _ => none) (fun f H' => V = H' ∧ f 0 = Lk.sl l ∧ f 3 = I i ∧ f 4 = .bp u 0 ∧ f 5 = Bo false) (by kernel_rfl) ?_ ?_
    · simp -dsimp [g0, g3, g4]
    clear g g0 g3 g4
    rintro g _ ⟨rfl, g0, g3, g4, g5⟩
    -- its kind
    refine awp_cut (fun _ => false) (fun _ => none) (fun f H' => V = H' ∧ f 0 = Lk.sl l ∧ f 3 = I i ∧ f 4 = .bp u 0 ∧ f 5 = Bo (fitK x.kind x.items x.taken x.subs)) (by kernel_rfl) ?_ ?_
    · replace hinv := Hid.mk hinv
      obtain ⟨F, hF⟩ : ∃ F, F = fitK x.kind x.items x.taken x.subs := ⟨_, rfl⟩
      rw [← hF]
      unfold fitK at hF
      have cl := fun a (h : x.subs = [a]) H => rloop_ok a (by rw [h, lkssCount, lkssCount] at hcx; omega) H
      have hs0 : ((x.subs.length : Int) == 0) = !decide (0 < x.subs.length) := by
        by_cases h : 0 < x.subs.length
        · rw [decide_eq_true h]; simp; intro h2; rw [h2] at h; simp at h
        · rw [decide_eq_false h]; simp; exact List.eq_nil_of_length_eq_zero (by omega)
      have hs1 : ((x.subs.length : Int) == 1) = decide (x.subs.length = 1) := by
        by_cases h : x.subs.length = 1
        · rw [decide_eq_true h, h]; rfl
        · rw [decide_eq_false h]; simp; omega
      have hi0 : ((x.items.length : Int) == 0) = !decide (0 < x.items.length) := by
        by_cases h : 0 < x.items.length
        · rw [decide_eq_true h]; simp; intro h2; rw [h2] at h; simp at h
        · rw [decide_eq_false h]; simp; exact List.eq_nil_of_length_eq_zero (by omega)
      obtain ⟨P0, hP0⟩ : ∃ P0, P0 = decide (0 < x.subs.length) := ⟨_, rfl⟩
      obtain ⟨P1, hP1⟩ : ∃ P1, P1 = decide (x.subs.length = 1) := ⟨_, rfl⟩
      obtain ⟨Q0, hQ0⟩ : ∃ Q0, Q0 = decide (0 < x.items.length) := ⟨_, rfl⟩
      rw [← hP0, ← hP1, ← hQ0] at hF
      rw [← hP0] at hs0
      rw [← hP1] at hs1
      rw [← hQ0] at hi0
      by_cases k1 : x.kind = 1
      · rw [if_pos k1] at hF
        cases P0 <;> cases ht : x.taken <;> rw [ht] at hF <;> subst hF <;> simp -dsimp [g0, g3, g4, g5, hVx, k1, hs0, ht]
      rw [if_neg k1] at hF
      have b1 : (x.kind == 1) = false := by simpa using k1
      by_cases k2 : x.kind = 2
      · rw [if_neg (by omega), if_neg (by omega), if_neg (by omega), if_pos k2] at hF
        subst hF
        simp -dsimp [g0, g3, g4, g5, hVx, k2, hs1]
      have b2 : (x.kind == 2) = false := by simpa using k2
      by_cases k3 : x.kind = 3
      · rw [if_neg (by omega), if_pos k3] at hF
        cases P1
        · rw [Bool.and_false, Bool.false_and] at hF
          subst hF
          simp -dsimp [g0, g3, g4, g5, hVx, k3, hs1]
        obtain ⟨a, ha⟩ : ∃ a, x.subs = [a] := by
          have h1 := of_decide_eq_true hP1.symm
          match hh : x.subs, h1 with
          | [a], _ => exact ⟨a, rfl⟩
        have cl1 := cl a ha
        rw [← loop_same] at cl1
        rw [ha, List.headD_cons, Bool.and_true] at hF
        cases Q0 <;> cases ht : x.taken <;> rw [ht] at hF
        · subst hF
          have e0 : x.subs[0]? = some a := by rw [ha]; rfl
          simp -dsimp [g0, g3, g4, g5, hVx, k3, hs1, hi0, ht, e0]
          refine acallsW_det (cl1 _) ?_
          simp -dsimp [g0, g3, g4, g5, hVx, k3, hs1, hi0, ht, e0]
        all_goals
          subst hF
          simp -dsimp [g0, g3, g4, g5, hVx, k3, hs1, hi0, ht]
      have b3 : (x.kind == 3) = false := by simpa using k3
      by_cases k4 : x.kind = 4
      · rw [if_pos k4] at hF
        cases Q0 <;> cases ht : x.taken <;> rw [ht] at hF <;> subst hF <;> simp -dsimp [g0, g3, g4, g5, hVx, k4, hi0, ht]
      have b4 : (x.kind == 4) = false := by simpa using k4
      by_cases k5 : x.kind = 5
      · rw [if_neg k4, if_neg k3, if_pos k5] at hF
        cases P1 <;> cases ht : x.taken <;> rw [ht] at hF <;> subst hF <;> simp -dsimp [g0, g3, g4, g5, hVx, k5, hs1, ht]
      have b5 : (x.kind == 5) = false := by simpa using k5
      rw [if_neg k4, if_neg k3, if_neg k5, if_neg k2] at hF
      subst hF
      simp -dsimp [g0, g3, g4, g5, hVx, b1, b2, b3, b4, b5]
    clear g g0 g3 g4 g5
    rintro g _ ⟨rfl, g0, g3, g4, g5⟩
    refine awp_cut (fun _ => false) (fun _ => none) (fun f H' => V = H' ∧ f 0 = Lk.sl l ∧ f 3 = I i ∧ f 4 = .bp u 0 ∧ (lkssFits x.subs && K) = E) (by kernel_rfl) ?_ ?_
    · cases hk : fitK x.kind x.items x.taken x.subs
      · rw [hk] at g5 hinv
        simp -dsimp [g0, g3, g4, g5]
        exact finV false (by rw [← hinv]; rfl)
      · rw [hk] at g5 hinv
        simp -dsimp [g0, g3, g4, g5]
        simpa using hinv
    clear g g0 g3 g4 g5 hinv
    rintro g _ ⟨rfl, g0, g3, g4, hinv⟩
    refine awp_all (fun _ => false) (fun _ => none) (by kernel_rfl) ?_
    simp -dsimp [g0, g3, g4]
    refine loop_rule (hn := fun _ => false) (od := fun _ => none) (fun (j : Nat) f H' => V = H' ∧ f 0 = Lk.sl l ∧ f 3 = I i ∧ f 4 = .bp u 0 ∧ f 6 = I j ∧ j ≤ x.subs.length ∧ (lkssFits (x.subs.drop j) && K) = E) (fun j => x.subs.length - j) (by kernel_rfl) 0 (by
      simp [g0, g3, g4]
      simpa using hinv) ?_
    clear g g0 g3 g4 hinv
    rintro j g _ ⟨rfl, g0, g3, g4, g6, hj, hinv⟩
    simp -dsimp [g0, g3, g4, g6, hVx]
    refine condVW_introD (fun hjt => ?_) (fun hjt => ?_)
    · rw [drop_cons hjt, lkssFits] at hinv
      have hgs := lkss_get hjt
      have e3 := List.getElem?_eq_getElem hjt
      obtain ⟨a, ha⟩ : ∃ a, a = x.subs[j] := ⟨_, rfl⟩
      rw [← ha] at hinv e3 hgs
      clear ha
      have cr := ih a (by omega) (by omega) V
      simp -dsimp [g0, g3, g4, g6, hVx, e3]
      refine acallsW_det cr ?_
      cases hfa : lksFits a
      · rw [hfa] at hinv
        simp -dsimp
        exact finV false (by rw [← hinv]; rfl)
      · rw [hfa] at hinv
        simp -dsimp [g0, g3, g4, g6]
        exact ⟨j + 1, by omega, wrapS (by omega), by omega, by simpa using hinv⟩
    · rw [drop_end (by omega), lkssFits] at hinv
      simp -dsimp [g0, g3, g4]
      exact ⟨hVH, hinv⟩
end Go.Proofs
namespace Go.Proofs
open Go.Mu
def thruGo (st : Int) (br : Bool) (m : Nat) : List (List Tm) → List Lk → List Lk × Int
  | [], out => (out, 0)
  | t :: ts, out => if (rewE st br m t out).2 ≠ 0 then ([], (rewE st br m t out).2) else thruGo st br m ts (rewE st br m t out).1
theorem through_ok (st : Int) (br : Bool) (m : Nat) (ts : List (List Tm)) (l : List Lk) (hn : ts.length ≤ 1000) (hm : lksCount l + 2000000 * ts.length < m) (ht : ∀ t ∈ ts, tmsCount t ≤ 2^40) (hl : lksCount l ≤ 2^30) (H : List Blk) :
    ACalls Try.prog 30 [Tm.sls ts, Lk.sl l, U st, Bo br] H (fun e H' => e = .ret (.tup [Lk.sl (thruGo st br m ts l).1, I (thruGo st br m ts l).2]) ∧ H' = H) := by
  refine acalls_tidy (acalls_weakE (acalls_of_awp Try.func30 rfl (by kernel_rfl) ?_))
  obtain ⟨E, hE⟩ : ∃ E, E = thruGo st br m ts l := ⟨_, rfl⟩
  rw [← hE]
  have fin : ∀ (v : AV) (x : Int) (o : List Lk), E = (o, x) → Weak v (Lk.sl o) → WeakE (Tidy H (fun e H' => e = .ret (.tup [Lk.sl E.1, I E.2]) ∧ H' = H)) (.ret (.tup [v, I x])) H := fun v x o h hw => by
    rw [h]
    refine tidy_weak (r' := .tup [Lk.sl o, I x]) (Weak.tupL (.cons hw (.cons (.refl _) .nil))) ?_
    exact tidy_now rfl ⟨rfl, rfl⟩
  refine awp_cut (fun _ => false) (fun _ => none) (fun f H' => H = H' ∧ f 0 = Tm.sls ts ∧ f 1 = Lk.sl l ∧ f 2 = U st ∧ f 3 = Bo br) (by kernel_rfl) ?_ ?_
  · simp -dsimp
  rintro g _ ⟨rfl, g0, g1, g2, g3⟩
  refine awp_cut (fun _ => false) (fun _ => none) (fun f H' => H = H' ∧ f 0 = Tm.sls ts ∧ f 10 = Lk.sl l ∧ f 2 = U st ∧ f 3 = Bo br) (by kernel_rfl) ?_ ?_
  · have cc := fun H => clone_ok _ l (Nat.lt_succ_self _) (by omega) H
    simp -dsimp [g0, g1, g2, g3]
    refine acallsW_det (cc _) ?_
    simp -dsimp [g0, g1, g2, g3]
  clear g g0 g1 g2 g3
  rintro g _ ⟨rfl, g0, g10, g2, g3⟩
  refine awp_all (fun _ => false) (fun _ => none) (by kernel_rfl) ?_
  simp -dsimp [g0, g10, g2, g3]
  refine loop_rule (hn := fun _ => false) (od := fun _ => none) (fun (i : Nat) f H' => ∃ out, H = H' ∧ f 10 = Lk.sl out ∧ f 2 = U st ∧ f 3 = Bo br ∧ f 17 = Tm.sls ts ∧ f 18 = I ts.length ∧ f 19 = I i ∧ i ≤ ts.length ∧ lksCount out ≤ lksCount l + 2000000 * i ∧ thruGo st br m (ts.drop i) out = E) (fun i => ts.length - i) (by kernel_rfl) 0 (by
    simp [g0, g10, g2, g3]
    exact ⟨l, rfl, by omega, hE.symm⟩) ?_
  clear g g0 g10 g2 g3
  rintro i g _ ⟨out, rfl, g10, g2, g3, g17, g18, g19, hi, hc, hinv⟩
  simp -dsimp [g10, g2, g3, g17, g18, g19]
  refine condVW_introD (fun hlt => ?_) (fun hlt => ?_)
  · rw [drop_cons hlt, thruGo] at hinv
    have e1 := List.getElem?_eq_getElem hlt
    have htm := ht ts[i] (List.getElem_mem hlt)
    obtain ⟨t, hx⟩ : ∃ t, t = ts[i] := ⟨_, rfl⟩
    rw [← hx] at hinv e1 htm
    clear hx
    have cr := fun H => rewrite_ok st br m t out (by omega) htm (by omega) H
    have hk := rew_count st br m t out
    obtain ⟨R, hR⟩ : ∃ R, R = rewE st br m t out := ⟨_, rfl⟩
    rw [← hR] at cr hinv hk
    clear hR
    obtain ⟨X, e⟩ := R
    simp only at hinv hk cr
    replace hinv := Hid.mk hinv
    simp -dsimp [g10, g2, g3, g17, g18, g19, e1]
    refine acallsW_det (cr _) ?_
    simp -dsimp [g10, g2, g3, g17, g18, g19]
    refine condVW_introNE (fun h2 h2a h2b => ?_) (fun h2 => ?_)
    · have := hinv.out
      rw [if_pos h2] at this
      simp -dsimp
      exact fin _ _ [] this.symm (.nil 4)
    · have := hinv.out
      rw [if_neg (fun h => h h2)] at this
      simp -dsimp [g10, g2, g3, g17, g18, g19]
      exact ⟨i + 1, by omega, X, rfl, wrapS (by omega), by omega, by omega, this⟩
  · rw [drop_end (by omega), thruGo] at hinv
    simp -dsimp [g10]
    exact fin _ _ out hinv.symm (.refl _)
/-! ### Terms that keep all -/
def sameTm : Tm := .mk 1 [] false []
def sameV : List AV := [I 1, nilV, Bo false, nilV]
theorem same_weak (n : Nat) : Weak (.vs 4 (List.replicate n sameV)) (Tm.sl (List.replicate n sameTm)) := by
  refine .vsR ?_
  induction n with
  | zero => exact .nil
  | succ n ih =>
    rw [List.replicate_succ, List.replicate_succ, List.map_cons]
    exact .cons (.cons (.refl _) (.cons (.nil 1) (.cons (.refl _) (.cons (.nil 1) .nil)))) ih
theorem same_count : ∀ n, tmsCount (List.replicate n sameTm) = n
  | 0 => rfl
  | n + 1 => by rw [List.replicate_succ, tmsCount, same_count n]; simp [sameTm, Tm.count_eq, Tm.lines, Tm.subs, pkCount, tmssCount]; omega
theorem same_parts : ∀ n, tmsParts (List.replicate n sameTm) = n
  | 0 => rfl
  | n + 1 => by rw [List.replicate_succ, tmsParts, same_parts n]; simp [sameTm, Tm.parts_eq, Tm.lines, Tm.subs, pkCount, tmssParts]; omega
theorem same_deep : ∀ n, tmsDeep (List.replicate n sameTm) ≤ 1
  | 0 => by simp [tmsDeep]
  | n + 1 => by rw [List.replicate_succ, tmsDeep]; have := same_deep n; have e : sameTm.deep = 1 := (by kernel_rfl); omega
theorem same_good : ∀ n, tmsGood (List.replicate n sameTm) = true
  | 0 => rfl
  | n + 1 => by rw [List.replicate_succ, tmsGood, same_good n]; rfl
theorem same_terms {n : Nat} (h : n ≤ 1000000) : termsE (List.replicate n sameTm) = true := by
  rw [termsE_small (by have := same_deep n; omega) (by rw [same_parts]; exact h), same_good]
theorem same_go (rec : Rec) (st : Int) (br : Bool) : ∀ (l : List Lk) (n : Int), 0 ≤ n → lksDeep l ≤ 512 → n + lksParts l ≤ 1000000 → goM rec st br 1 (List.replicate l.length sameTm) l n = .ok l (n + lksParts l)
  | [], n, _, _, _ => by simp [goM, lksParts]
  | x :: l, n, h0, h1, h2 => by
    rw [lksDeep] at h1
    rw [lksParts] at h2 ⊢
    have hd : lksDeep [x] ≤ 512 := by rw [lksDeep, lksDeep]; omega
    have hp : lksParts [x] = x.parts := by rw [lksParts, lksParts]; omega
    have hn : nodeM rec st br sameTm 1 x n = .ok [x] (n + x.parts) := by
      unfold nodeM
      rw [if_pos (show sameTm.kind = 1 from rfl)]
      unfold sameM
      rw [top_small (by omega) (by omega) (by rw [hp]; omega), if_neg (by simp), hp, Int.zero_add, addR_small (by omega), Rw.bind_ok]
    rw [List.length_cons, List.replicate_succ, goM, hn, Rw.bind_ok, same_go rec st br l _ (by omega) (by omega) (by omega), Rw.pre_ok]
    congr 1
    push_cast
    omega
theorem same_rew {st : Int} {br : Bool} {m : Nat} {l : List Lk} (hm : 0 < m) (h1 : lksDeep l ≤ 512) (h2 : lksParts l ≤ 1000000) (hw : whyE l = 0) : rewE st br m (List.replicate l.length sameTm) l = (l, 0) := by
  have hlen : l.length ≤ lksParts l := by
    clear hw h1 h2
    induction l with
    | nil => simp
    | cons x l ih => rw [lksParts, List.length_cons, Lk.parts_eq]; omega
  refine rew_of (k := 0 + lksParts l) hw (same_terms (by omega)) ?_
  cases m with
  | zero => omega
  | succ m =>
    simp only [listM]
    rw [if_neg (by simp)]
    exact same_go _ _ _ _ _ (by omega) h1 (by omega)
end Go.Proofs
namespace Go.Proofs
open Go.Mu
theorem lthrough_ok (a b : List Tm) (l : List Lk) (st : Int) (br : Bool) (ha : tmsCount a ≤ 2^30) (hb : tmsCount b ≤ 2^30) (hl : lksCount l ≤ 2^30) (H : List Blk) :
    ACalls Try.prog 9 [Tm.sl a, Tm.sl b, Lk.sl l, U st, Bo br] H (fun e H' => e = .ret (Bo true) ∧ H' = H) := by
  refine acalls_under fun hu _ => acalls_tidy (acalls_of_awp Try.func9 rfl (by kernel_rfl) ?_)
  have c1 := fun H => few_ok l (by omega) H
  have c2 := fun H => small_ok a (by omega) H
  have c3 := fun H => small_ok b (by omega) H
  have c4 := fun H => lknown_ok H
  have c5 := fun H => rfits_ok _ l (Nat.lt_succ_self _) (by omega) H
  have hlen := lks_len l
  obtain ⟨m, hm⟩ : ∃ m, m = lksCount l + 4000001 := ⟨_, rfl⟩
  have fin : Tidy H (fun e H' => e = .ret (Bo true) ∧ H' = H) (.ret (Bo true)) H := tidy_now rfl ⟨rfl, rfl⟩
  refine awp_cut (fun _ => false) (fun _ => none) (fun f H' => H = H' ∧ f 0 = Tm.sl a ∧ f 1 = Tm.sl b ∧ f 2 = Lk.sl l ∧ f 3 = U st ∧ f 4 = Bo br) (by kernel_rfl) ?_ ?_
  · simp -dsimp
  rintro g _ ⟨rfl, g0, g1, g2, g3, g4⟩
  -- neither deep nor much
  refine awp_cut (fun _ => false) (fun _ => none) (fun f H' => H = H' ∧ f 0 = Tm.sl a ∧ f 1 = Tm.sl b ∧ f 2 = Lk.sl l ∧ f 3 = U st ∧ f 4 = Bo br ∧ fewB l = true) (by kernel_rfl) ?_ ?_
  · simp -dsimp [g0, g1, g2, g3, g4]
    refine acallsW_det (c1 _) ?_
    cases hf : fewB l
    · simp -dsimp
      refine acallsW_det (c4 _) ?_
      simp -dsimp
      exact fin
    simp -dsimp [g0, g1, g2, g3, g4]
    refine acallsW_det (c2 _) ?_
    cases hs : smallB a
    · simp -dsimp
      refine acallsW_det (c4 _) ?_
      simp -dsimp
      exact fin
    simp -dsimp [g0, g1, g2, g3, g4]
    refine acallsW_det (c3 _) ?_
    cases hs2 : smallB b
    · simp -dsimp
      refine acallsW_det (c4 _) ?_
      simp -dsimp
      exact fin
    simp -dsimp [g0, g1, g2, g3, g4]
  clear g g0 g1 g2 g3 g4 c1 c2 c3
  rintro g _ ⟨rfl, g0, g1, g2, g3, g4, hf⟩
  unfold fewB at hf
  simp only [Bool.and_eq_true, decide_eq_true_eq] at hf
  -- through both
  obtain ⟨X, hX⟩ : ∃ X, X = thruGo st br m [a, b] l := ⟨_, rfl⟩
  obtain ⟨Y, hY⟩ : ∃ Y, Y = rewE st br m a l := ⟨_, rfl⟩
  obtain ⟨Z, hZ⟩ : ∃ Z, Z = rewE st br m b Y.1 := ⟨_, rfl⟩
  have hkY := rew_count st br m a l
  have hkZ := rew_count st br m b Y.1
  rw [← hY] at hkY
  rw [← hZ] at hkZ
  have hXe : X = if Y.2 ≠ 0 then ([], Y.2) else Z := by
    rw [hX, thruGo, ← hY]
    split
    · rfl
    · rw [thruGo, ← hZ]
      split
      · rename_i h
        have : Z.1 = [] := by rw [hZ]; exact rew_err (by rw [← hZ]; exact h)
        exact Prod.ext this.symm rfl
      · rename_i h
        rw [thruGo]
        exact Prod.ext rfl (by simpa using h : Z.2 = 0).symm
  have d1 := fun H => through_ok st br m [a, b] l (by simp) (by rw [hm]; simp) (by simp; omega) (by omega) H
  rw [← hX] at d1
  have d2 := fun H => rewrite_ok st br m a l (by omega) (by omega) (by omega) H
  rw [← hY] at d2
  have d3 := fun H => rewrite_ok st br m b Y.1 (by omega) (by omega) (by omega) H
  rw [← hZ] at d3
  clear hX hY hZ
  refine awp_cut (fun _ => false) (fun _ => none) (fun f H' => H = H' ∧ f 0 = Tm.sl a ∧ f 1 = Tm.sl b ∧ f 2 = Lk.sl l ∧ f 3 = U st ∧ f 4 = Bo br ∧ f 11 = Lk.sl X.1 ∧ f 12 = I X.2) (by kernel_rfl) ?_ ?_
  · simp -dsimp [g0, g1, g2, g3, g4]
    refine acallsW_det (d1 _) ?_
    simp -dsimp [g0, g1, g2, g3, g4]
  clear g g0 g1 g2 g3 g4
  rintro g _ ⟨rfl, g0, g1, g2, g3, g4, g11, g12⟩
  refine awp_cut (fun _ => false) (fun _ => none) (fun f H' => H = H' ∧ f 1 = Tm.sl b ∧ f 2 = Lk.sl l ∧ f 3 = U st ∧ f 4 = Bo br ∧ f 11 = Lk.sl X.1 ∧ f 12 = I X.2 ∧ f 13 = Lk.sl Y.1 ∧ f 14 = I Y.2) (by kernel_rfl) ?_ ?_
  · simp -dsimp [g0, g1, g2, g3, g4, g11, g12]
    refine acallsW_det (d2 _) ?_
    simp -dsimp [g0, g1, g2, g3, g4, g11, g12]
  clear g g0 g1 g2 g3 g4 g11 g12
  rintro g _ ⟨rfl, g1, g2, g3, g4, g11, g12, g13, g14⟩
  refine awp_cut (fun _ => false) (fun _ => none) (fun f H' => H = H' ∧ f 2 = Lk.sl l ∧ f 3 = U st ∧ f 4 = Bo br) (by kernel_rfl) ?_ ?_
  · replace hXe := Hid.mk hXe
    simp -dsimp [g1, g2, g3, g4, g11, g12, g13, g14]
    refine condVW_introNE (fun h1 h1a h1b => ?_) (fun h1 => ?_)
    · have hXe := hXe.out
      rw [if_pos h1] at hXe
      subst hXe
      simp -dsimp [g1, g2, g3, g4, g11, g12, g13, g14]
    · have hXe := hXe.out
      rw [if_neg (fun h => h h1)] at hXe
      subst hXe
      have d4 := fun H => rsame_ok _ X.1 X.1 (Nat.lt_succ_self _) (by omega) (by omega) H
      rw [lksEq_refl] at d4
      simp -dsimp [g1, g2, g3, g4, g11, g12, g13, g14]
      refine acallsW_det (d3 _) ?_
      simp -dsimp [g1, g2, g3, g4, g11, g12, g13, g14]
      refine acallsW_det (d4 _) ?_
      simp -dsimp [g1, g2, g3, g4, g11, g12, g13, g14]
  clear g g1 g2 g3 g4 g11 g12 g13 g14
  rintro g _ ⟨rfl, g2, g3, g4⟩
  clear hXe hkY hkZ d1 d2 d3 X Y Z
  -- through none
  have d5 : ∀ H, ACalls Try.prog 30 [nilV, Lk.sl l, U st, Bo br] H (fun e H' => e = .ret (.tup [Lk.sl l, I 0]) ∧ H' = H) := fun H => acalls_weak (.cons (.nil 1) (.refl _)) (through_ok st br m [] l (by simp) (by rw [hm]; simp) (by simp) (by omega) H)
  have d6 := fun H => rsame_ok _ l l (Nat.lt_succ_self _) (by omega) (by omega) H
  rw [lksEq_refl] at d6
  refine awp_cut (fun _ => false) (fun _ => none) (fun f H' => H = H' ∧ f 2 = Lk.sl l ∧ f 3 = U st ∧ f 17 = Lk.sl l ∧ f 18 = I 0) (by kernel_rfl) ?_ ?_
  · simp -dsimp [g2, g3, g4]
    refine acallsW_det (d5 _) ?_
    simp -dsimp [g2, g3, g4]
  clear g g2 g3 g4
  rintro g _ ⟨rfl, g2, g3, g17, g18⟩
  refine awp_cut (fun _ => false) (fun _ => none) (fun f H' => H = H' ∧ f 2 = Lk.sl l ∧ f 3 = U st) (by kernel_rfl) ?_ ?_
  · simp -dsimp [g2, g3, g17, g18]
    refine acallsW_det (d6 _) ?_
    simp -dsimp [g2, g3]
  clear g g2 g3 g17 g18
  rintro g _ ⟨rfl, g2, g3⟩
  refine awp_cut (fun _ => false) (fun _ => none) (fun f H' => H = H' ∧ f 2 = Lk.sl l ∧ f 3 = U st ∧ lksFits l = true) (by kernel_rfl) ?_ ?_
  · simp -dsimp [g2, g3]
    refine acallsW_det (c5 _) ?_
    cases hft : lksFits l
    · simp -dsimp
      refine acallsW_det (c4 _) ?_
      simp -dsimp
      exact fin
    · simp -dsimp [g2, g3]
  clear g g2 g3
  rintro g _ ⟨rfl, g2, g3, hft⟩
  -- terms that keep all
  have hb1 : 64 * (l.length : Int) ≤ 281474976710656 := by omega
  have hb2 : (l.length : Int) ≤ 9223372036854775807 := by omega
  obtain ⟨R, hR⟩ : ∃ R : Nat → List (List AV), R = fun i => List.replicate i sameV ++ List.replicate (l.length - i) [I 0, nilV, Bo false, nilV] := ⟨_, rfl⟩
  have hRe : ∀ i, R i = List.replicate i sameV ++ List.replicate (l.length - i) [I 0, nilV, Bo false, nilV] := fun i => by rw [hR]
  have hRl : ∀ i, i ≤ l.length → (R i).length = l.length := fun i h => by rw [hRe]; simp; omega
  have hRg : ∀ i, i < l.length → (R i)[i]? = some [I 0, nilV, Bo false, nilV] := fun i h => by
    rw [hRe, List.getElem?_append_right (by simp), List.length_replicate, Nat.sub_self, show l.length - i = (l.length - i - 1) + 1 by omega, List.replicate_succ]; rfl
  have hRs : ∀ i, i < l.length → (R i).set i [I 1, nilV, Bo false, nilV] = R (i + 1) := fun i h => by
    rw [hRe, hRe, List.set_append, if_neg (by simp), List.length_replicate, Nat.sub_self, show l.length - i = (l.length - (i + 1)) + 1 by omega, List.replicate_succ, List.set_cons_zero, List.replicate_succ']
    simp [sameV]
  obtain ⟨N, hN⟩ : ∃ N : Nat → List Blk, N = fun i => H ++ [.row 76 4 (R i)] := ⟨_, rfl⟩
  have hNe : ∀ i, N i = H ++ [.row 76 4 (R i)] := fun i => by rw [hN]
  have hNg : ∀ i, (N i)[H.length]? = some (.row 76 4 (R i)) := fun i => by rw [hNe]; simp
  have hNs : ∀ i X, (N i).set H.length (.row 76 4 X) = H ++ [.row 76 4 X] := fun i X => by rw [hNe]; simp
  have hR0 : R 0 = List.replicate l.length [I 0, nilV, Bo false, nilV] := by rw [hRe]; simp
  have hRn : R l.length = List.replicate l.length sameV := by rw [hRe]; simp
  clear hR hN
  refine awp_cut (fun _ => false) (fun _ => none) (fun f H' => H' = N 0 ∧ f 2 = Lk.sl l ∧ f 3 = U st ∧ f 19 = .hs H.length 0 l.length l.length) (by kernel_rfl) ?_ ?_
  · simp -dsimp [g2, g3, hb1, hb2, hNe, hR0]
  clear g g2 g3
  rintro g _ ⟨rfl, g2, g3, g19⟩
  refine awp_cutA (fun f H' => H' = N l.length ∧ f 2 = Lk.sl l ∧ f 3 = U st ∧ f 19 = .hs H.length 0 l.length l.length) ?_ ?_
  · refine awp_all (fun _ => false) (fun _ => none) (by kernel_rfl) ?_
    simp -dsimp [g2, g3, g19]
    refine loop_rule (hn := fun _ => false) (od := fun _ => none) (fun (i : Nat) f H' => H' = N i ∧ f 2 = Lk.sl l ∧ f 3 = U st ∧ f 19 = .hs H.length 0 l.length l.length ∧ f 20 = I i ∧ i ≤ l.length) (fun i => l.length - i) (by kernel_rfl) 0 (by simp [g2, g3, g19]) ?_
    clear g g2 g3 g19
    rintro i g _ ⟨rfl, g2, g3, g19, g20, hi⟩
    simp -dsimp [g2, g3, g19, g20]
    refine condVW_introD (fun hlt => ?_) (fun hlt => ?_)
    · have hlt' : i < l.length := by omega
      have x1 := hRl i hi
      have x2 := hRg i hlt'
      have x3 := hRs i hlt'
      have x4 : astore (N i) (.rp H.length l.length i 0) [I 1] = some (N (i + 1)) := by
        rw [astore]
        simp only [hNg, x1, x2, if_true, List.length_cons, List.length_nil]
        rw [if_pos (by omega), hNs, hNe, ← x3]
        rfl
      simp -dsimp [g2, g3, g19, g20, hNg, x1, x4, hlt']
      exact ⟨i + 1, by omega, rfl, wrapS (by omega), by omega⟩
    · obtain rfl : i = l.length := by omega
      simp -dsimp [g2, g3, g19]
  clear g g2 g3 g19
  rintro g _ ⟨rfl, g2, g3, g19⟩
  have hRt : (R l.length).take l.length = List.replicate l.length sameV := by rw [hRn]; exact List.take_of_length_le (by simp)
  have hRL := hRl l.length (Nat.le_refl _)
  refine awp_give H.length 4 76 (R l.length) (hNg _) ?_ ?_
  · rw [hRn, List.all_eq_true]
    intro c hc
    obtain ⟨e, he, hce⟩ := List.mem_flatten.1 hc
    obtain ⟨_, rfl⟩ := List.mem_replicate.1 he
    simp [sameV] at hce
    rcases hce with rfl | rfl | rfl | rfl <;> rfl
  have hmem : frzH H.length 4 (R l.length) (N l.length) = H ++ [.gone] := by
    rw [hNe]
    exact frzH_app 0 hu
  rw [hmem]
  have k2 : (g 2).frz H.length 4 (R l.length) = Lk.sl l := by rw [g2]; rfl
  have k3 : (g 3).frz H.length 4 (R l.length) = U st := by rw [g3]; rfl
  have k19 : (g 19).frz H.length 4 (R l.length) = .vs 4 (List.replicate l.length sameV) := by
    rw [g19, ← hRt, AV.frz, if_pos ⟨rfl, hRL.symm⟩, List.drop_zero]
  obtain ⟨g', hg'⟩ : ∃ g' : Fr, g' = fun t => (g t).frz H.length 4 (R l.length) := ⟨_, rfl⟩
  have q2 : g' 2 = Lk.sl l := by rw [hg']; exact k2
  have q3 : g' 3 = U st := by rw [hg']; exact k3
  have q19 : g' 19 = .vs 4 (List.replicate l.length sameV) := by rw [hg']; exact k19
  rw [← hg']
  clear hg' k2 k3 k19 g2 g3 g19 hRe hRl hRg hRs hNe hNg hNs hR0 hRn hRt hRL hmem d5
  have hw : whyE l = 0 := by rw [why_small (by omega) (by omega), hft]; rfl
  have d7 : ∀ H, ACalls Try.prog 26 [.vs 4 (List.replicate l.length sameV), Lk.sl l, U st, Bo false] H (fun e H' => e = .ret (.tup [Lk.sl l, I 0]) ∧ H' = H) := fun H => by
    have := rewrite_ok st false m (List.replicate l.length sameTm) l (by omega) (by rw [same_count]; omega) (by omega) H
    rw [same_rew (by omega) (by omega) (by omega) hw] at this
    exact acalls_weak (.cons (same_weak _) (.refl _)) this
  refine awp_all (fun _ => false) (fun _ => none) (by kernel_rfl) ?_
  simp -dsimp [q2, q3, q19]
  refine acallsW_det (d7 _) ?_
  simp -dsimp [q2, q3, q19]
  refine acallsW_det (d6 _) ?_
  simp -dsimp [q2, q3, q19]
  refine acallsW_det (c4 _) ?_
  simp -dsimp [q2, q3, q19]
  exact tidy_same rfl ⟨rfl, rfl⟩
end Go.Proofs
namespace Go.Proofs
open Go.Mu
theorem equ_ok (a b : List Int) (ha : a.length ≤ 2^40) (hb : b.length ≤ 2^40) (H : List Blk) : ACalls Try.prog 86 [U.sl a, U.sl b] H (fun e H' => e = .ret (Bo (decide (a = b))) ∧ H' = H) := by
  refine acalls_tidy (acalls_of_vc (hn := fun _ => false) (od := fun _ => none) Try.func86 rfl (by kernel_rfl) ?_)
  obtain ⟨E, hE⟩ : ∃ E, E = decide (a = b) := ⟨_, rfl⟩
  rw [← hE]
  have fin0 : ∀ (b : Bool), b = E → Tidy H (fun e H' => e = .ret (Bo E) ∧ H' = H) (.ret (Bo b)) H := fun b h => by rw [h]; exact tidy_now rfl ⟨rfl, rfl⟩
  simp -dsimp
  refine condVW_introNE (fun h1 h1a h1b => ?_) (fun h1 => ?_)
  · simp -dsimp
    exact fin0 _ (by rw [hE, eq_comm]; exact decide_eq_false (fun h => h1 (by rw [h])))
  have hl : a.length = b.length := by omega
  simp -dsimp
  refine loop_rule (hn := fun _ => false) (od := fun _ => none) (fun (i : Nat) f H' => H = H' ∧ f 0 = U.sl a ∧ f 1 = U.sl b ∧ f 12 = I a.length ∧ f 13 = I i ∧ i ≤ a.length ∧ E = decide (a.drop i = b.drop i)) (fun i => a.length - i) (by kernel_rfl) 0 (by simp [hl]; simp [hE]) ?_
  rintro i f _ ⟨rfl, h0, h1', h12, h13, hi, hinv⟩
  simp -dsimp [h0, h1', h12, h13]
  refine condVW_introD (fun hlt => ?_) (fun hlt => ?_)
  · have hltb : i < b.length := by omega
    rw [drop_cons hlt, drop_cons hltb] at hinv
    have e1 := List.getElem?_eq_getElem hlt
    have e2 := List.getElem?_eq_getElem hltb
    obtain ⟨x, hx⟩ : ∃ x, x = a[i] := ⟨_, rfl⟩
    obtain ⟨y, hy⟩ : ∃ y, y = b[i] := ⟨_, rfl⟩
    rw [← hx] at hinv e1
    rw [← hy] at hinv e2
    clear hx hy
    simp -dsimp [h0, h1', h12, h13, e1, e2]
    refine condVW_introNE (fun h1 h1a h1b => ?_) (fun h1 => ?_)
    · simp -dsimp
      exact fin0 _ (by rw [hinv]; simp [h1])
    · subst h1
      simp -dsimp [h0, h1', h12, h13]
      exact ⟨i + 1, by omega, wrapS (by omega), by omega, by rw [hinv]; simp⟩
  · have h1 : a.drop i = [] := List.drop_eq_nil_of_le (by omega)
    have h2 : b.drop i = [] := List.drop_eq_nil_of_le (by omega)
    rw [h1, h2] at hinv
    simp -dsimp
    exact fin0 _ hinv.symm
theorem eqs_ok (a b : List Sn) (ha : a.length ≤ 2^40) (hb : b.length ≤ 2^40) (H : List Blk) : ACalls Try.prog 89 [Sn.sl a, Sn.sl b] H (fun e H' => e = .ret (Bo (decide (a = b))) ∧ H' = H) := by
  refine acalls_tidy (acalls_of_vc (hn := fun _ => false) (od := fun _ => none) Try.func89 rfl (by kernel_rfl) ?_)
  obtain ⟨E, hE⟩ : ∃ E, E = decide (a = b) := ⟨_, rfl⟩
  rw [← hE]
  have fin0 : ∀ (b : Bool), b = E → Tidy H (fun e H' => e = .ret (Bo E) ∧ H' = H) (.ret (Bo b)) H := fun b h => by rw [h]; exact tidy_now rfl ⟨rfl, rfl⟩
  simp -dsimp
  refine condVW_introNE (fun h1 h1a h1b => ?_) (fun h1 => ?_)
  · simp -dsimp
    exact fin0 _ (by rw [hE, eq_comm]; exact decide_eq_false (fun h => h1 (by rw [h])))
  have hl : a.length = b.length := by omega
  simp -dsimp
  refine loop_rule (hn := fun _ => false) (od := fun _ => none) (fun (i : Nat) f H' => H = H' ∧ f 0 = Sn.sl a ∧ f 1 = Sn.sl b ∧ f 12 = I a.length ∧ f 13 = I i ∧ i ≤ a.length ∧ E = decide (a.drop i = b.drop i)) (fun i => a.length - i) (by kernel_rfl) 0 (by simp [hl]; simp [hE]) ?_
  rintro i f _ ⟨rfl, h0, h1', h12, h13, hi, hinv⟩
  simp -dsimp [h0, h1', h12, h13]
  refine condVW_introD (fun hlt => ?_) (fun hlt => ?_)
  · have hltb : i < b.length := by omega
    rw [drop_cons hlt, drop_cons hltb] at hinv
    have e1 := List.getElem?_eq_getElem hlt
    have e2 := List.getElem?_eq_getElem hltb
    obtain ⟨x, hx⟩ : ∃ x, x = a[i] := ⟨_, rfl⟩
    obtain ⟨y, hy⟩ : ∃ y, y = b[i] := ⟨_, rfl⟩
    rw [← hx] at hinv e1
    rw [← hy] at hinv e2
    clear hx hy
    obtain ⟨xj, xt, xa⟩ := x
    obtain ⟨yj, yt, ya⟩ := y
    by_cases hxy : xj = yj ∧ xt = yt ∧ xa = ya
    · obtain ⟨rfl, rfl, rfl⟩ := hxy
      simp -dsimp [h0, h1', h12, h13, e1, e2]
      exact ⟨i + 1, by omega, wrapS (by omega), by omega, by rw [hinv]; simp⟩
    · have hbb : (!xj == yj || (!xt == yt || !xa == ya)) = true := by
        by_cases p : xj = yj
        · by_cases q : xt = yt
          · by_cases r : xa = ya
            · exact absurd ⟨p, q, r⟩ hxy
            · simp [r]
          · simp [q]
        · simp [p]
      simp -dsimp [h0, h1', h12, h13, e1, e2, hbb]
      exact fin0 _ (by rw [hinv]; simp; intro a b c; exact absurd ⟨a, b, c⟩ hxy)
  · have h1 : a.drop i = [] := List.drop_eq_nil_of_le (by omega)
    have h2 : b.drop i = [] := List.drop_eq_nil_of_le (by omega)
    rw [h1, h2] at hinv
    simp -dsimp
    exact fin0 _ hinv.symm
theorem lseen_ok (a b : List Sn) (ha : a.length ≤ 2^40) (hb : b.length ≤ 2^40) (H : List Blk) : ACalls Try.prog 36 [Sn.sl a, Sn.sl b] H (fun e H' => e = .ret (Bo (decide (a = b))) ∧ H' = H) := by
  refine acalls_tidy (acalls_of_vc (hn := fun _ => false) (od := fun _ => none) Try.func36 rfl (by kernel_rfl) ?_)
  simp -dsimp
  refine acallsW_det (eqs_ok a b ha hb _) ?_
  simp -dsimp
  exact tidy_now rfl ⟨rfl, rfl⟩
def prefB (a b : List Sn) : Bool := decide (a.length ≤ b.length) && decide (a = b.take a.length)
theorem prefix_ok (a b : List Sn) (ha : a.length ≤ 2^40) (hb : b.length ≤ 2^40) (H : List Blk) : ACalls Try.prog 35 [Sn.sl a, Sn.sl b] H (fun e H' => e = .ret (Bo (prefB a b)) ∧ H' = H) := by
  refine acalls_tidy (acalls_of_vc (hn := fun _ => false) (od := fun _ => none) Try.func35 rfl (by kernel_rfl) ?_)
  have ce := fun H => eqs_ok a (b.take a.length) ha (by simp; omega) H
  simp only [Sn.sl, List.map_take] at ce
  obtain ⟨E, hE⟩ : ∃ E, E = prefB a b := ⟨_, rfl⟩
  rw [← hE]
  unfold prefB at hE
  have fin0 : ∀ (b : Bool), b = E → Tidy H (fun e H' => e = .ret (Bo E) ∧ H' = H) (.ret (Bo b)) H := fun b h => by rw [h]; exact tidy_now rfl ⟨rfl, rfl⟩
  by_cases h : a.length ≤ b.length
  · rw [decide_eq_true h, Bool.true_and] at hE
    rw [← hE] at ce
    simp -dsimp [h]
    refine acallsW_det (ce _) ?_
    simp -dsimp [h]
    exact fin0 _ rfl
  · rw [decide_eq_false h, Bool.false_and] at hE
    simp -dsimp [h]
    exact fin0 _ hE.symm
theorem lline_ok (items : List Int) (hi : items.length ≤ 2^40) (H : List Blk) : ACalls Try.prog 33 [U.sl items] H (fun e H' => e = .ret (.agg (Lk.mk 1 items false []).cells) ∧ H' = H) := by
  refine acalls_tidy (acalls_weakE (acalls_of_vc (hn := fun _ => false) (od := fun _ => none) Try.func33 rfl (by kernel_rfl) ?_))
  have cc := fun H => iclone_ok items hi H
  simp -dsimp [Lk.cells_eq]
  refine acallsW_det (cc _) ?_
  simp -dsimp [Lk.cells_eq]
  refine tidy_weak (r' := .agg [I 1, U.sl items, Bo false, Lk.sls []]) (Weak.aggL (.cons (.refl _) (.cons (.refl _) (.cons (.refl _) (.cons (.nil 1) .nil))))) ?_
  exact tidy_same rfl ⟨rfl, rfl⟩
end Go.Proofs
namespace Go.Proofs
open Go.Mu
theorem lkssEq_len : ∀ {a b : List (List Lk)}, lkssEq a b = true → a.length = b.length
  | [], [], _ => rfl
  | [], _ :: _, h => by rw [lkssEq] at h; cases h; all_goals simp
  | _ :: _, [], h => by rw [lkssEq] at h; cases h; all_goals simp
  | x :: a, y :: b, h => by rw [lkssEq, Bool.and_eq_true] at h; rw [List.length_cons, List.length_cons, lkssEq_len h.2]
theorem eqfL_ok (a b : List Lk) (g : FuncId) (hok : okFn Try.prog g = true) (ha : a.length ≤ 2^40) (hb : b.length ≤ 2^40) (hg : ∀ (i : Nat) x y, a[i]? = some x → b[i]? = some y → ∀ H, ACalls Try.prog g [.agg x.cells, .agg y.cells] H (fun e H' => e = .ret (Bo (x.eqB y)) ∧ H' = H)) (H : List Blk) :
    ACalls Try.prog 84 [Lk.sl a, Lk.sl b, .fn (.func g) [] []] H (fun e H' => e = .ret (Bo (lksEq a b)) ∧ H' = H) := by
  refine acalls_tidy (acalls_of_vc (hn := fun _ => false) (od := fun _ => none) Try.func84 rfl (by kernel_rfl) ?_)
  obtain ⟨E, hE⟩ : ∃ E, E = lksEq a b := ⟨_, rfl⟩
  rw [← hE]
  have fin : ∀ b L, b = E → Tidy H (fun e H' => e = .ret (Bo E) ∧ H' = H) (.ret (Bo b)) (H ++ L) := fun b L h => by rw [h]; exact tidy_same rfl ⟨rfl, rfl⟩
  have fin0 : ∀ (b : Bool), b = E → Tidy H (fun e H' => e = .ret (Bo E) ∧ H' = H) (.ret (Bo b)) H := fun b h => by rw [h]; exact tidy_now rfl ⟨rfl, rfl⟩
  have hlen : lksEq a b = true → a.length = b.length := fun h => lksEq_len h
  simp -dsimp
  refine condVW_introNE (fun h1 h1a h1b => ?_) (fun h1 => ?_)
  · simp -dsimp
    exact fin0 _ (by rw [hE]; cases hh : lksEq a b; rfl; exact absurd (by rw [hlen hh]) h1)
  have hl : a.length = b.length := by omega
  simp -dsimp
  refine loop_rule (hn := fun _ => false) (od := fun _ => none) (fun (i : Nat) f H' => (∃ L, H' = H ++ L) ∧ f 1 = Lk.sl b ∧ f 2 = .fn (.func g) [] [] ∧ f 15 = Lk.sl a ∧ f 16 = I a.length ∧ f 17 = I i ∧ i ≤ a.length ∧ lksEq (a.drop i) (b.drop i) = E) (fun i => a.length - i) (by kernel_rfl) 0 (by simp [hl]; simp [hE]) ?_
  rintro i f _ ⟨⟨L, rfl⟩, h1', h2, h15, h16, h17, hi, hinv⟩
  simp -dsimp [h1', h2, h15, h16, h17]
  refine condVW_introD (fun hlt => ?_) (fun hlt => ?_)
  · have hltb : i < b.length := by omega
    rw [drop_cons hlt, drop_cons hltb, lksEq] at hinv
    have e1 := List.getElem?_eq_getElem hlt
    have e2 := List.getElem?_eq_getElem hltb
    obtain ⟨x, hx⟩ : ∃ x, x = a[i] := ⟨_, rfl⟩
    obtain ⟨y, hy⟩ : ∃ y, y = b[i] := ⟨_, rfl⟩
    rw [← hx] at hinv e1
    rw [← hy] at hinv e2
    clear hx hy
    have cx := hg i x y e1 e2
    simp only [Lk.cells_eq] at cx
    simp -dsimp [h1', h2, h15, h16, h17, e1, e2, hok]
    refine acallsW_det (cx _) ?_
    cases hxy : x.eqB y
    · rw [hxy] at hinv
      simp -dsimp
      exact fin false _ (by rw [← hinv]; rfl)
    · rw [hxy] at hinv
      simp -dsimp [h1', h2, h15, h16, h17]
      exact ⟨i + 1, by omega, wrapS (by omega), by omega, by simpa using hinv⟩
  · have h3 : a.drop i = [] := List.drop_eq_nil_of_le (by omega)
    have h4 : b.drop i = [] := List.drop_eq_nil_of_le (by omega)
    rw [h3, h4, lksEq] at hinv
    simp -dsimp
    exact fin _ _ hinv
theorem eqfLL_ok (a b : List (List Lk)) (g : FuncId) (hok : okFn Try.prog g = true) (ha : a.length ≤ 2^40) (hb : b.length ≤ 2^40) (hg : ∀ (i : Nat) x y, a[i]? = some x → b[i]? = some y → ∀ H, ACalls Try.prog g [Lk.sl x, Lk.sl y] H (fun e H' => e = .ret (Bo (lksEq x y)) ∧ H' = H)) (H : List Blk) :
    ACalls Try.prog 87 [Lk.sls a, Lk.sls b, .fn (.func g) [] []] H (fun e H' => e = .ret (Bo (lkssEq a b)) ∧ H' = H) := by
  refine acalls_tidy (acalls_of_vc (hn := fun _ => false) (od := fun _ => none) Try.func87 rfl (by kernel_rfl) ?_)
  obtain ⟨E, hE⟩ : ∃ E, E = lkssEq a b := ⟨_, rfl⟩
  rw [← hE]
  have fin : ∀ b L, b = E → Tidy H (fun e H' => e = .ret (Bo E) ∧ H' = H) (.ret (Bo b)) (H ++ L) := fun b L h => by rw [h]; exact tidy_same rfl ⟨rfl, rfl⟩
  have fin0 : ∀ (b : Bool), b = E → Tidy H (fun e H' => e = .ret (Bo E) ∧ H' = H) (.ret (Bo b)) H := fun b h => by rw [h]; exact tidy_now rfl ⟨rfl, rfl⟩
  have hlen : lkssEq a b = true → a.length = b.length := fun h => lkssEq_len h
  simp -dsimp
  refine condVW_introNE (fun h1 h1a h1b => ?_) (fun h1 => ?_)
  · simp -dsimp
    exact fin0 _ (by rw [hE]; cases hh : lkssEq a b; rfl; exact absurd (by rw [hlen hh]) h1)
  have hl : a.length = b.length := by omega
  simp -dsimp
  refine loop_rule (hn := fun _ => false) (od := fun _ => none) (fun (i : Nat) f H' => (∃ L, H' = H ++ L) ∧ f 1 = Lk.sls b ∧ f 2 = .fn (.func g) [] [] ∧ f 15 = Lk.sls a ∧ f 16 = I a.length ∧ f 17 = I i ∧ i ≤ a.length ∧ lkssEq (a.drop i) (b.drop i) = E) (fun i => a.length - i) (by kernel_rfl) 0 (by simp [hl]; simp [hE]) ?_
  rintro i f _ ⟨⟨L, rfl⟩, h1', h2, h15, h16, h17, hi, hinv⟩
  simp -dsimp [h1', h2, h15, h16, h17]
  refine condVW_introD (fun hlt => ?_) (fun hlt => ?_)
  · have hltb : i < b.length := by omega
    rw [drop_cons hlt, drop_cons hltb, lkssEq] at hinv
    have e1 := List.getElem?_eq_getElem hlt
    have e2 := List.getElem?_eq_getElem hltb
    obtain ⟨x, hx⟩ : ∃ x, x = a[i] := ⟨_, rfl⟩
    obtain ⟨y, hy⟩ : ∃ y, y = b[i] := ⟨_, rfl⟩
    rw [← hx] at hinv e1
    rw [← hy] at hinv e2
    clear hx hy
    have cx := hg i x y e1 e2
    simp -dsimp [h1', h2, h15, h16, h17, e1, e2, hok]
    refine acallsW_det (cx _) ?_
    cases hxy : lksEq x y
    · rw [hxy] at hinv
      simp -dsimp
      exact fin false _ (by rw [← hinv]; rfl)
    · rw [hxy] at hinv
      simp -dsimp [h1', h2, h15, h16, h17]
      exact ⟨i + 1, by omega, wrapS (by omega), by omega, by simpa using hinv⟩
  · have h3 : a.drop i = [] := List.drop_eq_nil_of_le (by omega)
    have h4 : b.drop i = [] := List.drop_eq_nil_of_le (by omega)
    rw [h3, h4, lkssEq] at hinv
    simp -dsimp
    exact fin _ _ hinv
theorem same1_ok (x y : Lk) (hx : x.items.length ≤ 2^40) (hy : y.items.length ≤ 2^40) (hs : ∀ H, ACalls Try.prog 87 [Lk.sls x.subs, Lk.sls y.subs, .fn (.func 32) [] []] H (fun e H' => e = .ret (Bo (lkssEq x.subs y.subs)) ∧ H' = H)) (H : List Blk) :
    ACalls Try.prog 85 [.agg x.cells, .agg y.cells] H (fun e H' => e = .ret (Bo (x.eqB y)) ∧ H' = H) := by
  refine acalls_tidy (acalls_of_vc (hn := fun _ => false) (od := fun _ => none) Try.func85 rfl (by kernel_rfl) ?_)
  obtain ⟨E, hE⟩ : ∃ E, E = x.eqB y := ⟨_, rfl⟩
  rw [← hE]
  rw [Lk.eqB_eq] at hE
  have fin : ∀ b L, b = E → Tidy H (fun e H' => e = .ret (Bo E) ∧ H' = H) (.ret (Bo b)) (H ++ L) := fun b L h => by rw [h]; exact tidy_same rfl ⟨rfl, rfl⟩
  have ce := fun H => equ_ok x.items y.items hx hy H
  replace hE := Hid.mk hE
  simp only [Lk.cells_eq]
  by_cases hk : x.kind = y.kind
  rotate_left
  · have hkb : (x.kind == y.kind) = false := by simpa using hk
    simp -dsimp [hkb]
    exact fin false _ (by rw [hE.out, decide_eq_false hk]; rfl)
  by_cases hi : x.items = y.items
  rotate_left
  · rw [decide_eq_false hi] at ce
    simp -dsimp [hk]
    refine acallsW_det (ce _) ?_
    simp -dsimp [hk]
    exact fin false _ (by rw [hE.out, decide_eq_false hi, Bool.and_false]; rfl)
  rw [decide_eq_true hi] at ce
  by_cases ht : x.taken = y.taken
  rotate_left
  · have hkb : (x.taken == y.taken) = false := by simpa using ht
    simp -dsimp [hk]
    refine acallsW_det (ce _) ?_
    simp -dsimp [hk, hkb]
    exact fin false _ (by rw [hE.out, decide_eq_false ht, Bool.and_false]; rfl)
  simp -dsimp [hk]
  refine acallsW_det (ce _) ?_
  simp -dsimp [hk, ht]
  refine acallsW_det (hs _) ?_
  simp -dsimp [hk, ht]
  exact fin _ _ (by rw [hE.out, decide_eq_true hk, decide_eq_true ht, decide_eq_true hi]; rfl)
theorem lsame_ok (m : Nat) : ∀ (a b : List Lk), lksCount a < m → lksCount a ≤ 2^40 → lksCount b ≤ 2^40 → ∀ (H : List Blk), ACalls Try.prog 32 [Lk.sl a, Lk.sl b] H (fun e H' => e = .ret (Bo (lksEq a b)) ∧ H' = H) := by
  induction m with
  | zero => intro a b h; omega
  | succ m ih =>
    intro a b hm hca hcb H
    have hla := lks_len a
    have hlb := lks_len b
    have ok1 : okFn Try.prog 32 = true := by kernel_rfl
    have ok2 : okFn Try.prog 85 = true := by kernel_rfl
    have c : ∀ H, ACalls Try.prog 84 [Lk.sl a, Lk.sl b, .fn (.func 85) [] []] H (fun e H' => e = .ret (Bo (lksEq a b)) ∧ H' = H) := fun H => by
      refine eqfL_ok a b 85 ok2 (by omega) (by omega) (fun i x y hx hy H => ?_) H
      obtain ⟨hxi, rfl⟩ := List.getElem?_eq_some_iff.1 hx
      obtain ⟨hyi, rfl⟩ := List.getElem?_eq_some_iff.1 hy
      have gx := lks_get hxi
      have gy := lks_get hyi
      have cx := Lk.count_eq a[i]
      have cy := Lk.count_eq b[i]
      have sx := lkss_len a[i].subs
      have sy := lkss_len b[i].subs
      refine same1_ok _ _ (by omega) (by omega) (fun H => ?_) H
      refine eqfLL_ok _ _ 32 ok1 (by omega) (by omega) (fun j u v hu hv H => ?_) H
      obtain ⟨hui, rfl⟩ := List.getElem?_eq_some_iff.1 hu
      obtain ⟨hvi, rfl⟩ := List.getElem?_eq_some_iff.1 hv
      have gu := lkss_get hui
      have gv := lkss_get hvi
      exact ih _ _ (by omega) (by omega) (by omega) H
    refine acalls_tidy (acalls_of_vc (hn := fun _ => false) (od := fun _ => none) Try.func32 rfl (by kernel_rfl) ?_)
    simp -dsimp
    refine acallsW_det (c _) ?_
    simp -dsimp
    exact tidy_now rfl ⟨rfl, rfl⟩
end Go.Proofs
namespace Go.Proofs
open Go.Mu
theorem tidy_snO {H : List Blk} {R : AE → List Blk → Prop} (hu : underH H.length H = true) (l : List Sn) (L : List Blk) (h : R (.ret (snS H.length l)) (H ++ [snB l])) : WeakE (Tidy H R) (.ret (snS H.length l)) (H ++ snB l :: L) := by
  refine tidy_weak (.refl _) ?_
  have := tidy_to (H := H) (H2 := H ++ [snB l]) (L := L) (R := R) (r := snS H.length l) (by simp) (fun h => underH_app (n := H.length) (by simp) hu (fun b hb => by
    obtain rfl := List.mem_singleton.1 hb
    exact under_ownB_plain (sns_frzB l))) (under_ownS _ _ _ (by simp)) h
  simpa using this
theorem flatO_ok (l : List Lk) (hc : lksCount l ≤ 2^40) (H : List Blk) : ACalls Try.prog 78 [Lk.sl l] H (fun e H' => e = .ret (snS H.length (lksFlat l)) ∧ H' = H ++ [snB (lksFlat l)]) := by
  refine acalls_under fun hu _ => acalls_tidy (acalls_weakE (acalls_spare 1 (acalls_of_awp Try.func78 rfl (by kernel_rfl) ?_)))
  have hlen := lks_len l
  have hfl := lksFlat_len l
  obtain ⟨F, hF⟩ : ∃ F, F = lksFlat l := ⟨_, rfl⟩
  have hFl : F.length ≤ 2^40 := by rw [hF]; omega
  have hrg : ∀ X L, (H ++ X :: L)[H.length]? = some X := fun X L => by simp
  have hrs : ∀ X Y L, (H ++ X :: L).set H.length Y = H ++ Y :: L := fun X Y L => by simp
  rw [← hF]
  refine awp_cut (fun _ => false) (fun _ => none) (fun f H' => H' = H ++ [Blk.pend] ∧ f 0 = Lk.sl l) (by kernel_rfl) ?_ ?_
  · simp -dsimp
  rintro g _ ⟨rfl, g0⟩
  refine awp_cut (fun _ => false) (fun _ => none) (fun f H' => H' = H ++ [Blk.pend] ∧ f 0 = Lk.sl l ∧ f 3 = nilS) (by kernel_rfl) ?_ ?_
  · simp -dsimp [g0]
  clear g g0
  rintro g _ ⟨rfl, g0, g3⟩
  refine awp_cutA (fun f H' => SnM H F [] [] (f 3) H') ?_ ?_
  rotate_left
  · clear g g0 g3
    rintro g _ ⟨s, L, rfl, g3, hs⟩
    rw [List.append_nil] at hs
    subst hs
    refine awp_all (fun _ => false) (fun _ => none) (by kernel_rfl) ?_
    simp -dsimp [g3]
    exact tidy_snO hu s L ⟨rfl, rfl⟩
  refine awp_cut (fun _ => false) (fun _ => none) (fun f H' => H' = H ++ [Blk.pend] ∧ f 10 = Lk.sl l ∧ f 3 = nilS ∧ f 11 = I l.length ∧ f 12 = I 0) (by kernel_rfl) ?_ ?_
  · simp -dsimp [g0, g3]
  clear g g0 g3
  rintro g _ ⟨rfl, g10, g3, g11, g12⟩
  refine awp_block ?_
  refine awp_loopI (fun (i : Nat) f H' => SnM H F [] (lksFlat (l.drop i)) (f 3) H' ∧ f 10 = Lk.sl l ∧ f 11 = I l.length ∧ f 12 = I i ∧ i ≤ l.length) (fun i => l.length - i) 0
    ⟨⟨[], [], by simp [ownB], by rw [g3]; exact (ownS_nil _).symm, by simp [hF]⟩, g10, g11, g12, by omega⟩ ?_
  clear g g10 g3 g11 g12 hF
  rintro i g _ ⟨⟨s, L, rfl, g3, hs⟩, g10, g11, g12, hi⟩
  rw [List.nil_append]
  refine awp_cut (fun _ => false) (fun _ => none) (fun f H' => H' = H ++ snB s :: L ∧ f 10 = Lk.sl l ∧ f 11 = I l.length ∧ f 12 = I i ∧ f 3 = snS H.length s ∧ f 13 = Bo (decide ((i : Int) < l.length))) (by kernel_rfl) ?_ ?_
  · simp -dsimp [g10, g11, g12, g3]
  clear g g10 g11 g12 g3
  rintro g _ ⟨rfl, g10, g11, g12, g3, g13⟩
  refine awp_cut (fun _ => false) (fun _ => none) (fun f H' => H' = H ++ snB s :: L ∧ f 10 = Lk.sl l ∧ f 11 = I l.length ∧ f 12 = I i ∧ f 3 = snS H.length s ∧ i < l.length) (by kernel_rfl) ?_ ?_
  · simp -dsimp [g13]
    refine condVW_introD (fun hlt => ?_) (fun hlt => ?_)
    · simp -dsimp [g10, g11, g12, g3]
      omega
    · rw [drop_end (by omega), lksFlat] at hs
      simp -dsimp [g3]
      exact ⟨s, L, by simp, rfl, hs⟩
  clear g g10 g11 g12 g3 g13
  rintro g _ ⟨rfl, g10, g11, g12, g3, hlt⟩
  rw [drop_cons hlt, lksFlat, Lk.flat_eq] at hs
  have hgx := lks_get hlt
  have hlx : l[i]? = some l[i] := List.getElem?_eq_getElem hlt
  obtain ⟨x, hx⟩ : ∃ x, x = l[i] := ⟨_, rfl⟩
  rw [← hx] at hgx hlx hs
  clear hx
  have hcx := Lk.count_eq x
  have hls := lkss_len x.subs
  obtain ⟨K, hK⟩ : ∃ K, K = lksFlat (l.drop (i + 1)) := ⟨_, rfl⟩
  rw [← hK] at hs
  have hbound : ∀ a b : List Sn, a ++ b = F → a.length ≤ 2^40 := fun a b h => by have := congrArg List.length h; simp only [List.length_append] at this; omega
  refine awp_cutA (fun f H' => SnM H F [] K (f 3) H' ∧ f 10 = Lk.sl l ∧ f 11 = I l.length ∧ f 12 = I i) ?_ ?_
  rotate_left
  · clear g g10 g11 g12 g3
    rintro g H' ⟨ho, g10, g11, g12⟩
    rw [hK] at ho
    replace ho := Hid.mk ho
    refine awp_all (fun _ => false) (fun _ => none) (by kernel_rfl) ?_
    simp -dsimp [g10, g11, g12]
    exact ⟨i + 1, by omega, ho.out, wrapS (by omega), by omega⟩
  refine awp_block ?_
  obtain ⟨xB, hxB⟩ : ∃ xB, xB = Blk.box 67 [I x.kind, U.sl x.items, Bo x.taken, Lk.sls x.subs] := ⟨_, rfl⟩
  obtain ⟨hx, hhx⟩ : ∃ hx, hx = H.length + (L.length + 1) := ⟨_, rfl⟩
  have hgX : ∀ (A : Blk) R, (H ++ A :: (L ++ xB :: R))[hx]? = some (.box 67 [I x.kind, U.sl x.items, Bo x.taken, Lk.sls x.subs]) := fun A R => by
    rw [hhx, List.getElem?_append_right (by omega), Nat.add_sub_cancel_left, List.getElem?_cons_succ, List.getElem?_append_right (Nat.le_refl _), Nat.sub_self, ← hxB]; rfl
  refine awp_cut (fun _ => false) (fun _ => none) (fun f H' => H' = H ++ snB s :: (L ++ [xB]) ∧ f 10 = Lk.sl l ∧ f 11 = I l.length ∧ f 12 = I i ∧ f 3 = snS H.length s ∧ f 5 = .bp hx 0) (by kernel_rfl) ?_ ?_
  · rw [hxB, hhx]
    simp -dsimp [g10, g11, g12, g3, hlx]
  clear g g10 g11 g12 g3
  rintro g _ ⟨rfl, g10, g11, g12, g3, g5⟩
  -- its items
  obtain ⟨K1, hK1⟩ : ∃ K1, K1 = jumpSn x ++ (lkssFlat x.subs ++ K) := ⟨_, rfl⟩
  have hs1 : s ++ (itemSn x.items ++ K1) = F := by rw [← hs, hK1]; simp
  clear hs
  refine awp_cutA (fun f H' => SnM H F (L ++ [xB]) K1 (f 3) H' ∧ f 10 = Lk.sl l ∧ f 11 = I l.length ∧ f 12 = I i ∧ f 5 = .bp hx 0) ?_ ?_
  · refine awp_all (fun d => d == 27) (fun _ => none) (by kernel_rfl) ?_
    simp -dsimp [g10, g11, g12, g3, g5, hgX]
    refine loop_rule (hn := fun d => d == 27) (od := fun _ => none) (fun (j : Nat) f H' => SnM H F (L ++ [xB]) (itemSn (x.items.drop j) ++ K1) (f 3) H' ∧ f 10 = Lk.sl l ∧ f 11 = I l.length ∧ f 12 = I i ∧ f 5 = .bp hx 0 ∧ f 17 = U.sl x.items ∧ f 18 = I x.items.length ∧ f 19 = I j ∧ j ≤ x.items.length) (fun j => x.items.length - j) (by kernel_rfl) 0 (by
      simp [g10, g11, g12, g3, g5]
      exact ⟨s, [], by simp, rfl, hs1⟩) ?_
    clear g g10 g11 g12 g3 g5 hs1
    rintro j g _ ⟨⟨s, R, rfl, g3, hs⟩, g10, g11, g12, g5, g17, g18, g19, hj⟩
    simp -dsimp [g10, g11, g12, g3, g5, g17, g18, g19]
    refine condVW_introD (fun hjt => ?_) (fun hjt => ?_)
    · rw [drop_cons hjt] at hs
      have hlj : x.items[j]? = some x.items[j] := List.getElem?_eq_getElem hjt
      obtain ⟨w, hw⟩ : ∃ w, w = x.items[j] := ⟨_, rfl⟩
      rw [← hw] at hs hlj
      clear hw
      have hsl := hbound _ _ hs
      simp -dsimp [g10, g11, g12, g3, g5, g17, g18, g19, hlj]
      refine appendVW_own (k := H.length) (es := s.map Sn.cells) (by rw [hrg]) (by simp; omega) (by simp; omega) ?_
      rw [hrs]
      simp -dsimp [g10, g11, g12, g3, g5, g17, g18, g19]
      exact ⟨j + 1, by omega, ⟨s ++ [⟨false, false, w⟩], R, by simp [snB], by simp [snS], by rw [← hs]; simp [itemSn]⟩, wrapS (by omega), by omega⟩
    · have h1 : x.items.drop j = [] := List.drop_eq_nil_of_le (by omega)
      rw [h1] at hs
      simp -dsimp [g10, g11, g12, g3, g5]
      exact ⟨s, R, by simp, rfl, by simpa [itemSn] using hs⟩
  clear g g10 g11 g12 g3 g5 hs1
  rintro g _ ⟨⟨s, R, rfl, g3, hs⟩, g10, g11, g12, g5⟩
  rw [show (L ++ [xB]) ++ R = L ++ xB :: R by simp]
  rw [hK1] at hs
  clear hK1
  -- its jump
  refine awp_cut (fun d => d == 38) (fun _ => none) (fun f H' => SnM H F (L ++ [xB]) (lkssFlat x.subs ++ K) (f 3) H' ∧ f 10 = Lk.sl l ∧ f 11 = I l.length ∧ f 12 = I i ∧ f 5 = .bp hx 0) (by kernel_rfl) ?_ ?_
  · have hsl := hbound _ _ hs
    simp -dsimp [g10, g11, g12, g3, g5, hgX]
    refine condVW_introE (fun hk => ?_) (fun hk _ _ => ?_)
    · have hj : jumpSn x = [⟨true, !x.taken, 0⟩] := by unfold jumpSn; rw [if_pos hk]
      rw [hj] at hs
      simp -dsimp [g10, g11, g12, g3, g5, hgX]
      refine appendVW_own (k := H.length) (es := s.map Sn.cells) (by rw [hrg]) (by simp; omega) (by simp; omega) ?_
      rw [hrs]
      simp -dsimp [g10, g11, g12, g3, g5]
      exact ⟨s ++ [⟨true, !x.taken, 0⟩], R, by simp [snB], by simp [snS], by rw [← hs]; simp⟩
    · have hj : jumpSn x = [] := by unfold jumpSn; rw [if_neg hk]
      rw [hj] at hs
      simp -dsimp [g10, g11, g12, g3, g5]
      exact ⟨s, R, by simp, rfl, by simpa using hs⟩
  clear g g10 g11 g12 g3 g5 hs
  rintro g _ ⟨⟨s, R, rfl, g3, hs⟩, g10, g11, g12, g5⟩
  rw [show (L ++ [xB]) ++ R = L ++ xB :: R by simp]
  -- what lies within
  refine awp_all (fun d => d == 49) (fun _ => none) (by kernel_rfl) ?_
  simp -dsimp [g10, g11, g12, g3, g5, hgX]
  refine loop_rule (hn := fun d => d == 49) (od := fun _ => none) (fun (j : Nat) f H' => SnM H F [] (lkssFlat (x.subs.drop j) ++ K) (f 3) H' ∧ f 10 = Lk.sl l ∧ f 11 = I l.length ∧ f 12 = I i ∧ f 40 = Lk.sls x.subs ∧ f 41 = I x.subs.length ∧ f 42 = I j ∧ j ≤ x.subs.length) (fun j => x.subs.length - j) (by kernel_rfl) 0 (by
    simp [g10, g11, g12, g3, g5]
    exact ⟨s, _, rfl, rfl, hs⟩) ?_
  clear g g10 g11 g12 g3 g5 hs hgX
  clear R
  rintro j g _ ⟨⟨s, R, rfl, g3, hs⟩, g10, g11, g12, g40, g41, g42, hj⟩
  rw [List.nil_append]
  simp -dsimp [g10, g11, g12, g3, g40, g41, g42]
  refine condVW_introD (fun hjt => ?_) (fun hjt => ?_)
  · rw [drop_cons hjt, lkssFlat] at hs
    have hgs := lkss_get hjt
    have hlj : x.subs[j]? = some x.subs[j] := List.getElem?_eq_getElem hjt
    obtain ⟨a, ha⟩ : ∃ a, a = x.subs[j] := ⟨_, rfl⟩
    rw [← ha] at hs hlj hgs
    clear ha
    have hsl := hbound (s ++ lksFlat a) (lkssFlat (x.subs.drop (j + 1)) ++ K) (by rw [← hs]; simp)
    simp only [List.length_append] at hsl
    have cr := fun H => flat_ok _ a (Nat.lt_succ_self _) (by omega) H
    simp -dsimp [g10, g11, g12, g3, g40, g41, g42, hlj]
    refine acallsW_det (cr _) ?_
    simp -dsimp [g10, g11, g12, g3, g40, g41, g42, hlj]
    refine appendVW_own (k := H.length) (es := s.map Sn.cells) (by rw [hrg]) (by simp; omega) (by simp; omega) ?_
    rw [hrs]
    simp -dsimp [g10, g11, g12, g3, g40, g41, g42]
    exact ⟨j + 1, by omega, ⟨s ++ lksFlat a, R, by simp [snB], by simp [snS], by rw [← hs]; simp⟩, wrapS (by omega), by omega⟩
  · have h1 : x.subs.drop j = [] := List.drop_eq_nil_of_le (by omega)
    rw [h1, lkssFlat] at hs
    simp -dsimp [g10, g11, g12, g3]
    exact ⟨s, R, rfl, rfl, by simpa using hs⟩
theorem FlatO_ok (l : List Lk) (hl : lksCount l ≤ 2^40) (hw : whyE l = 0) (H : List Blk) : ACalls Try.prog 28 [Lk.sl l] H (fun e H' => e = .ret (.tup [snS H.length (lksFlat l), I 0]) ∧ H' = H ++ [snB (lksFlat l)]) := by
  refine acalls_under fun hu _ => acalls_tidy (acalls_of_vc (hn := fun _ => false) (od := fun _ => none) Try.func28 rfl (by kernel_rfl) ?_)
  have cw := fun H => why_ok l hl H
  have cf := fun H => flatO_ok l hl H
  rw [hw] at cw
  simp -dsimp
  refine acallsW_det (cw _) ?_
  simp -dsimp
  refine acallsW_of (cf _) ?_
  rintro _ _ ⟨rfl, rfl⟩
  simp -dsimp
  have := tidy_to (H := H) (H2 := H ++ [snB (lksFlat l)]) (L := []) (R := fun e H' => e = .ret (.tup [snS H.length (lksFlat l), I 0]) ∧ H' = H ++ [snB (lksFlat l)]) (r := .tup [snS H.length (lksFlat l), I 0]) (by simp) (fun h => underH_app (n := H.length) (by simp) hu (fun b hb => by
    obtain rfl := List.mem_singleton.1 hb
    exact under_ownB_plain (sns_frzB _))) (by
      have := under_ownS (H ++ [snB (lksFlat l)]).length H.length ((lksFlat l).map Sn.cells) (by simp)
      simp only [AV.under, underL, this]; rfl) ⟨rfl, rfl⟩
  simpa using this
end Go.Proofs
namespace Go.Proofs
open Go.Mu
theorem shows_weak {H : List Blk} {args args' : List AV} (hw : WeakL args args') : Shows H args args' := fun B w0 cx vals h1 h2 h3 => ⟨cx, h1, rfl, h3.weakens hw⟩
theorem sn_apart1 {fid : FuncId} {M : List Blk} {k : Nat} {T s : List Sn} {x : Value} (hk : M[k]? = some (snB T)) (h : ACalls Try.prog fid [Sn.sl T, Sn.sl s] [] (fun e H' => e = .ret (.v x) ∧ H' = [])) :
    ACalls Try.prog fid [snS k T, Sn.sl s] M (fun e H' => e = .ret (.v x) ∧ H' = M) := by
  refine acalls_apart (args' := [Sn.sl T, Sn.sl s]) ?_ rfl h
  by_cases hT : T = []
  · subst hT
    exact shows_weak (.cons (.nil 3) (.refl _))
  · have hne : T.map Sn.cells ≠ [] := by simpa using hT
    unfold snB at hk
    rw [ownB, if_neg hne] at hk
    refine Shows.row k 3 81 (T.map Sn.cells) hk (sns_frzB T) ?_
    have e : frzL k 3 (T.map Sn.cells) [snS k T, Sn.sl s] = [Sn.sl T, Sn.sl s] := by
      simp only [frzL, snS]
      rw [frz_own _ _ _ hne]
      rfl
    rw [e]
    exact .refl _ _
theorem sn_apart2 {fid : FuncId} {M : List Blk} {k : Nat} {T s : List Sn} {x : Value} (hk : M[k]? = some (snB T)) (h : ACalls Try.prog fid [Sn.sl s, Sn.sl T] [] (fun e H' => e = .ret (.v x) ∧ H' = [])) :
    ACalls Try.prog fid [Sn.sl s, snS k T] M (fun e H' => e = .ret (.v x) ∧ H' = M) := by
  refine acalls_apart (args' := [Sn.sl s, Sn.sl T]) ?_ rfl h
  by_cases hT : T = []
  · subst hT
    exact shows_weak (.cons (.refl _) (.cons (.nil 3) .nil))
  · have hne : T.map Sn.cells ≠ [] := by simpa using hT
    unfold snB at hk
    rw [ownB, if_neg hne] at hk
    refine Shows.row k 3 81 (T.map Sn.cells) hk (sns_frzB T) ?_
    have e : frzL k 3 (T.map Sn.cells) [Sn.sl s, snS k T] = [Sn.sl s, Sn.sl T] := by
      simp only [frzL, snS]
      rw [frz_own _ _ _ hne]
      rfl
    rw [e]
    exact .refl _ _
/-- A list of the caller's own, given away. -/
theorem FlatG_ok (l : List Lk) (hl : lksCount l ≤ 2^40) (hw : whyE l = 0) (M : List Blk) (hu : underH M.length M = true) : ACalls Try.prog 28 [outS M.length l] (M ++ [outB l]) (fun e H' => e = .ret (.tup [Sn.sl (lksFlat l), I 0]) ∧ ∃ B, H' = M ++ [B]) := by
  have c := fun H => Flat_ok l hl H
  rw [flatE, if_neg (by rw [hw]; simp)] at c
  by_cases hT : l = []
  · subst hT
    refine acalls_weak (args' := [Lk.sl []]) (.cons (.nil 4) .nil) ((c _).mono ?_)
    rintro e H' ⟨rfl, rfl⟩
    exact ⟨rfl, _, rfl⟩
  · have hne : l.map Lk.cells ≠ [] := by simpa using hT
    have hk : (M ++ [outB l])[M.length]? = some (.row 67 4 (l.map Lk.cells)) := by
      rw [List.getElem?_append_right (Nat.le_refl _), Nat.sub_self]
      unfold outB
      rw [ownB, if_neg hne]; rfl
    refine acalls_give M.length 4 67 (l.map Lk.cells) hk (lks_frzB l) ?_
    have e : frzL M.length 4 (l.map Lk.cells) [outS M.length l] = [Lk.sl l] := by
      simp only [frzL, outS]
      rw [frz_own _ _ _ hne]
    rw [e]
    have e2 : frzH M.length 4 (l.map Lk.cells) (M ++ [outB l]) = M ++ [.gone] := frzH_app 0 hu
    rw [e2]
    refine (c _).mono ?_
    rintro e H' ⟨rfl, rfl⟩
    exact ⟨rfl, _, rfl⟩
theorem flat_app (a b : List Lk) : lksFlat (a ++ b) = lksFlat a ++ lksFlat b := by
  induction a with
  | nil => simp [lksFlat]
  | cons x a ih => rw [List.cons_append, lksFlat, lksFlat, ih, List.append_assoc]
theorem why_app {a b : List Lk} (ha : lksDeep a ≤ 60 ∧ lksParts a ≤ 3000) (hb : lksDeep b ≤ 60 ∧ lksParts b ≤ 3000) (fa : lksFits a = true) (fb : lksFits b = true) : whyE (a ++ b) = 0 := by
  have hd : ∀ a : List Lk, lksDeep (a ++ b) = max (lksDeep a) (lksDeep b) := fun a => by
    induction a with
    | nil => simp [lksDeep]
    | cons x a ih => rw [List.cons_append, lksDeep, lksDeep, ih]; omega
  have hp : ∀ a : List Lk, lksParts (a ++ b) = lksParts a + lksParts b := fun a => by
    induction a with
    | nil => simp [lksParts]
    | cons x a ih => rw [List.cons_append, lksParts, lksParts, ih]; omega
  have hf : ∀ a : List Lk, lksFits (a ++ b) = (lksFits a && lksFits b) := fun a => by
    induction a with
    | nil => simp [lksFits]
    | cons x a ih => rw [List.cons_append, lksFits, lksFits, ih, Bool.and_assoc]
  rw [why_small (by rw [hd]; omega) (by rw [hp]; omega), hf, fa, fb]
  rfl
theorem lsameLaw_ok (a b : List Lk) (s : List Sn) (n : Int) (items : List Int) (ha : lksCount a ≤ 2^30) (hb : lksCount b ≤ 2^30) (hs : s.length ≤ 2^30) (hi : items.length ≤ 2^30) (hsn : ∀ x ∈ s, 0 ≤ x.addr ∧ x.addr < 2^64) (H : List Blk) :
    ACalls Try.prog 10 [Lk.sl a, Lk.sl b, Sn.sl s, I n, U.sl items] H (fun e H' => e = .ret (Bo true) ∧ H' = H) := by
  refine acalls_under fun hu _ => acalls_tidy (acalls_spare 1 (acalls_of_awp Try.func10 rfl (by kernel_rfl) ?_))
  have c1 := fun H => few_ok a (by omega) H
  have c2 := fun H => few_ok b (by omega) H
  have c4 := fun H => lknown_ok H
  have hla := lks_len a
  have hlb := lks_len b
  have fin : ∀ L, Tidy H (fun e H' => e = .ret (Bo true) ∧ H' = H) (.ret (Bo true)) (H ++ L) := fun L => tidy_same rfl ⟨rfl, rfl⟩
  refine awp_cut (fun _ => false) (fun _ => none) (fun f H' => H' = H ++ [Blk.pend] ∧ f 0 = Lk.sl a ∧ f 1 = Lk.sl b ∧ f 2 = Sn.sl s ∧ f 3 = I n ∧ f 4 = U.sl items) (by kernel_rfl) ?_ ?_
  · simp -dsimp
  rintro g _ ⟨rfl, g0, g1, g2, g3, g4⟩
  -- neither deep nor much
  refine awp_cut (fun _ => false) (fun _ => none) (fun f H' => H' = H ++ [Blk.pend] ∧ f 0 = Lk.sl a ∧ f 1 = Lk.sl b ∧ f 2 = Sn.sl s ∧ f 3 = I n ∧ f 4 = U.sl items ∧ fewB a = true ∧ fewB b = true) (by kernel_rfl) ?_ ?_
  · simp -dsimp [g0, g1, g2, g3, g4]
    refine acallsW_det (c1 _) ?_
    cases hf : fewB a
    · simp -dsimp
      refine acallsW_det (c4 _) ?_
      simp -dsimp
      exact fin _
    simp -dsimp [g0, g1, g2, g3, g4]
    refine acallsW_det (c2 _) ?_
    cases hf2 : fewB b
    · simp -dsimp
      refine acallsW_det (c4 _) ?_
      simp -dsimp
      exact fin _
    simp -dsimp [g0, g1, g2, g3, g4]
    refine guardVW_introFD (fun h1 => ?_) (fun h1 => ?_)
    · simp -dsimp [h1]
      refine acallsW_det (c4 _) ?_
      simp -dsimp
      exact fin _
    simp -dsimp [g0, g1, g2, g3, g4, h1]
    refine condVW_introD (fun h2 => ?_) (fun h2 => ?_)
    · simp -dsimp
      refine acallsW_det (c4 _) ?_
      simp -dsimp
      exact fin _
    · simp -dsimp [g0, g1, g2, g3, g4]
  clear g g0 g1 g2 g3 g4 c1 c2
  rintro g _ ⟨rfl, g0, g1, g2, g3, g4, hfa, hfb⟩
  unfold fewB at hfa hfb
  simp only [Bool.and_eq_true, decide_eq_true_eq] at hfa hfb
  -- which are the same
  have d1 := fun H => lsame_ok _ a b (Nat.lt_succ_self _) (by omega) (by omega) H
  have d2 := fun H => rsame_ok _ a b (Nat.lt_succ_self _) (by omega) (by omega) H
  have d3 := fun H => lsame_ok _ a a (Nat.lt_succ_self _) (by omega) (by omega) H
  rw [lksEq_refl] at d3
  have d4 := fun H => lline_ok items (by omega) H
  have d5 := fun H => line_fn items H
  have d6 : ∀ H, ACalls Try.prog 27 [.vs 4 [[I 1, U.sl items, Bo false, Lk.sls []]], .vs 4 [[I 1, U.sl items, Bo false, Lk.sls []]]] H (fun e H' => e = .ret (Bo true) ∧ H' = H) := fun H => by
    have hk : lksCount [Lk.mk 1 items false []] ≤ 2^40 := by rw [lksCount_one, Lk.count_eq]; simp only [Lk.items, Lk.subs, lkssCount]; omega
    have := rsame_ok _ [.mk 1 items false []] [.mk 1 items false []] (Nat.lt_succ_self _) hk hk H
    rw [lksEq_refl] at this
    exact this
  simp only [Lk.cells_eq, Lk.kind, Lk.items, Lk.taken, Lk.subs] at d4 d5
  refine awp_cut (fun _ => false) (fun _ => none) (fun f H' => H' = H ++ [Blk.pend] ∧ f 0 = Lk.sl a ∧ f 1 = Lk.sl b ∧ f 2 = Sn.sl s ∧ f 3 = I n) (by kernel_rfl) ?_ ?_
  · simp -dsimp [g0, g1, g2, g3, g4]
    refine acallsW_det (d1 _) ?_
    simp -dsimp [g0, g1, g2, g3, g4]
    refine acallsW_det (d2 _) ?_
    simp -dsimp [g0, g1, g2, g3, g4]
    refine acallsW_det (d3 _) ?_
    simp -dsimp [g0, g1, g2, g3, g4]
    refine acallsW_det (d4 _) ?_
    simp -dsimp [g0, g1, g2, g3, g4]
    refine acallsW_det (d5 _) ?_
    simp -dsimp [g0, g1, g2, g3, g4]
    refine acallsW_det (d6 _) ?_
    simp -dsimp [g0, g1, g2, g3, g4]
  clear g g0 g1 g2 g3 g4 d1 d2 d3 d4 d5 d6
  rintro g _ ⟨rfl, g0, g1, g2, g3⟩
  -- a beginning
  refine awp_cut (fun d => d == 71) (fun _ => none) (fun f H' => (∃ L, H' = H ++ L) ∧ f 0 = Lk.sl a ∧ f 1 = Lk.sl b) (by kernel_rfl) ?_ ?_
  · by_cases h0 : 0 ≤ n
    rotate_left
    · simp -dsimp [g0, g1, g2, g3, h0]
    by_cases h1 : n ≤ s.length
    rotate_left
    · simp -dsimp [g0, g1, g2, g3, h0, h1]
    obtain ⟨j, rfl⟩ : ∃ j : Nat, n = j := ⟨n.toNat, by omega⟩
    have hj : j ≤ s.length := by omega
    simp -dsimp [g0, g1, g2, g3, h0, hj]
    obtain ⟨T, hT⟩ : ∃ T, T = s.take j := ⟨_, rfl⟩
    have hTl : T.length = j := by rw [hT]; simp; omega
    have hset : ∀ X : Blk, (H ++ [Blk.pend]).set H.length X = H ++ [X] := fun X => by simp
    have hget : ∀ X : Blk, (H ++ [X])[H.length]? = some X := fun X => by simp
    have hpT : prefB T s = true := by unfold prefB; rw [hTl, ← hT]; simp; omega
    have hpS : prefB s T = decide (j = s.length) := by
      unfold prefB
      by_cases h : j = s.length
      · rw [decide_eq_true h, hT, h, List.take_of_length_le (Nat.le_refl _), List.take_of_length_le (Nat.le_refl _)]; simp
      · rw [decide_eq_false h, decide_eq_false (by omega)]; rfl
    have hsS : decide (s = T) = decide (j = s.length) := by
      by_cases h : j = s.length
      · rw [decide_eq_true h, hT, h, List.take_of_length_le (Nat.le_refl _)]; simp
      · rw [decide_eq_false h]; exact decide_eq_false (fun e => h (by rw [← hTl, ← e]))
    have p1 : ACalls Try.prog 35 [snS H.length T, Sn.sl s] (H ++ [snB T]) (fun e H' => e = .ret (Bo true) ∧ H' = H ++ [snB T]) := sn_apart1 (hget _) (by
      have := prefix_ok T s (by omega) (by omega) []
      rwa [hpT] at this)
    have p2 : ACalls Try.prog 35 [Sn.sl s, snS H.length T] (H ++ [snB T]) (fun e H' => e = .ret (Bo (decide (j = s.length))) ∧ H' = H ++ [snB T]) := sn_apart2 (hget _) (by
      have := prefix_ok s T (by omega) (by omega) []
      rwa [hpS] at this)
    have p3 : ACalls Try.prog 36 [Sn.sl s, snS H.length T] (H ++ [snB T]) (fun e H' => e = .ret (Bo (decide (j = s.length))) ∧ H' = H ++ [snB T]) := sn_apart2 (hget _) (by
      have := lseen_ok s T (by omega) (by omega) []
      rwa [hsS] at this)
    obtain ⟨N, hN⟩ : ∃ N, N = H ++ [snB T] := ⟨_, rfl⟩
    have hbeq : ((j : Int) == (s.length : Int)) = decide (j = s.length) := by
      by_cases h : j = s.length
      · rw [decide_eq_true h, h]; simp
      · rw [decide_eq_false h]; simp; omega
    obtain ⟨D, hD⟩ : ∃ D, D = decide (j = s.length) := ⟨_, rfl⟩
    rw [← hD] at p2 p3 hbeq
    clear hD hpT hpS hsS
    rw [← List.map_take, ← hT]
    refine appendVW_nilown H.length (by simp) (by simp; omega) (by simp; omega) ?_
    rw [hset]
    rw [← hN] at p1 p2 p3 ⊢
    simp -dsimp [g0, g1, g2, g3]
    refine acallsW_det p1 ?_
    simp -dsimp [g0, g1, g2, g3]
    refine acallsW_det p2 ?_
    simp -dsimp [g0, g1, g2, g3, hbeq]
    refine acallsW_det p3 ?_
    simp -dsimp [g0, g1, g2, g3, hbeq]
    refine condVW_introD (fun hjp => ?_) (fun hjp => ?_)
    rotate_left
    · simp -dsimp [g0, g1, g2, g3]
      exact ⟨_, hN⟩
    obtain ⟨i, rfl⟩ : ∃ i, j = i + 1 := ⟨j - 1, by omega⟩
    have wi : IntKind.i64.wrap (i : Int) = i := wrapI (by omega) (by omega)
    have hne : T.map Sn.cells ≠ [] := by intro h; rw [List.map_eq_nil_iff] at h; rw [h] at hTl; simp at hTl
    have hS : ownS H.length (T.map Sn.cells) = .hs H.length 0 (i + 1) (i + 1) := by
      rw [ownS, if_neg hne]
      simp [hTl]
    have hNg : N[H.length]? = some (.row 81 3 (T.map Sn.cells)) := by
      rw [hN, hget]
      unfold snB
      rw [ownB, if_neg hne]
    have hml : (T.map Sn.cells).length = i + 1 := by simp [hTl]
    have hiT : i < T.length := by omega
    obtain ⟨e, he⟩ : ∃ e, e = T[i] := ⟨_, rfl⟩
    have heT : T[i]? = some e := by rw [he]; exact List.getElem?_eq_getElem hiT
    have hem : (T.map Sn.cells)[i]? = some e.cells := by rw [List.getElem?_map, heT]; rfl
    have hem2 : e ∈ T := by rw [he]; exact List.getElem_mem hiT
    have hea := hsn e (List.mem_of_mem_take (by rw [← hT]; exact hem2))
    obtain ⟨w, hw⟩ : ∃ w, w = IntKind.u64.wrap (e.addr + 1) := ⟨_, rfl⟩
    have hwe : w ≠ e.addr := by
      by_cases h : e.addr + 1 < 2 ^ 64
      · have : IntKind.u64.wrap (e.addr + 1) = e.addr + 1 := wrapU (by omega) (by omega)
        omega
      · have : e.addr + 1 = 2 ^ 64 := by omega
        rw [hw, this, show IntKind.u64.wrap (2 ^ 64) = 0 by kernel_rfl]
        omega
    obtain ⟨T', hT'⟩ : ∃ T', T' = T.set i ⟨e.jump, e.taken, w⟩ := ⟨_, rfl⟩
    have x4 : astore N (.rp H.length (i + 1) i 2) [U w] = some (H ++ [snB T']) := by
      rw [astore]
      simp only [hNg, hml, hem, if_true, Sn.cells, List.length_cons, List.length_nil]
      rw [if_pos (by omega), hN]
      have hc : snB T' = .row 81 3 ((T.map Sn.cells).set i [Bo e.jump, Bo e.taken, U w]) := by
        have hne' : T'.map Sn.cells ≠ [] := by rw [hT']; intro h; rw [List.map_eq_nil_iff] at h; have := congrArg List.length h; simp at this; rw [this] at hTl; simp at hTl
        unfold snB
        rw [ownB, if_neg hne', hT', List.map_set]
        rfl
      rw [hc]
      simp [spl]
    have x5 : cellsAt N (.rp H.length (i + 1) i 2) = some [U e.addr] := by
      rw [cellsAt]
      simp only [hNg, hml, hem, if_true]
      rfl
    have hltc : (i : Int) < (i : Int) + 1 := by omega
    have hT'l : T'.length = i + 1 := by rw [hT', List.length_set, hTl]
    have hTne : ¬ T' = T := fun h => by
      have h1 : T'[i]? = some ⟨e.jump, e.taken, w⟩ := by rw [hT']; simp [hiT]
      rw [h, heT] at h1
      have := congrArg (fun x => x.map Sn.addr) h1
      simp at this
      exact hwe this.symm
    have hS' : ownS H.length (T'.map Sn.cells) = .hs H.length 0 (i + 1) (i + 1) := by
      rw [ownS, if_neg (fun h => by rw [List.map_eq_nil_iff] at h; rw [h] at hT'l; simp at hT'l)]
      simp [hT'l]
    have q1 : ACalls Try.prog 35 [snS H.length T', Sn.sl s] (H ++ [snB T']) (fun e H' => e = .ret (Bo false) ∧ H' = H ++ [snB T']) := sn_apart1 (hget _) (by
      have := prefix_ok T' s (by omega) (by omega) []
      have h2 : prefB T' s = false := by unfold prefB; rw [hT'l, ← hT, decide_eq_false hTne, Bool.and_false]
      rwa [h2] at this)
    have q2 : ACalls Try.prog 36 [snS H.length T', Sn.sl T] (H ++ [snB T']) (fun e H' => e = .ret (Bo false) ∧ H' = H ++ [snB T']) := sn_apart1 (hget _) (by
      have := lseen_ok T' T (by omega) (by omega) []
      rwa [decide_eq_false hTne] at this)
    simp only [snS, hS'] at q1 q2
    have htk : (s.map Sn.cells).take (i + 1) = T.map Sn.cells := by rw [hT, List.map_take]
    rw [hw] at x4
    obtain ⟨M, hM⟩ : ∃ M, M = H ++ [snB T'] := ⟨_, rfl⟩
    rw [← hM] at x4 q1 q2
    simp -dsimp [g0, g1, g2, g3, wi, hNg, hml, hem, hS, hltc, x5, x4]
    have k01 : (0 : Int) ≤ (i : Int) + 1 := by omega
    have k02 : (i : Int) + 1 ≤ (s.length : Int) := by omega
    have k03 : ((i : Int) + 1).toNat = i + 1 := by omega
    refine acallsW_det q1 ?_
    simp -dsimp [g0, g1, g2, g3, k01, k02, k03, htk]
    refine acallsW_det q2 ?_
    simp -dsimp [g0, g1, g2, g3]
    exact ⟨_, hM⟩
  clear g g0 g1 g2 g3
  rintro g _ ⟨⟨L, rfl⟩, g0, g1⟩
  -- what is flat
  have e1 := fun H => rfits_ok _ a (Nat.lt_succ_self _) (by omega) H
  have e2 := fun H => rfits_ok _ b (Nat.lt_succ_self _) (by omega) H
  refine awp_cut (fun _ => false) (fun _ => none) (fun f H' => H' = H ++ L ∧ f 0 = Lk.sl a ∧ f 1 = Lk.sl b ∧ lksFits a = true ∧ lksFits b = true) (by kernel_rfl) ?_ ?_
  · simp -dsimp [g0, g1]
    refine acallsW_det (e1 _) ?_
    cases hf : lksFits a
    · simp -dsimp
      refine acallsW_det (c4 _) ?_
      simp -dsimp
      exact fin _
    simp -dsimp [g0, g1]
    refine acallsW_det (e2 _) ?_
    cases hf2 : lksFits b
    · simp -dsimp
      refine acallsW_det (c4 _) ?_
      simp -dsimp
      exact fin _
    simp -dsimp [g0, g1]
  clear g g0 g1 e1 e2
  rintro g _ ⟨rfl, g0, g1, hfta, hftb⟩
  have hwa : whyE a = 0 := by rw [why_small (by omega) (by omega), hfta]; rfl
  have hwb : whyE b = 0 := by rw [why_small (by omega) (by omega), hftb]; rfl
  have hwab := why_app hfa hfb hfta hftb
  have f1 := fun H => FlatO_ok a (by omega) hwa H
  have f2 := fun H => Flat_ok b (by omega) H
  rw [flatE, if_neg (by rw [hwb]; simp)] at f2
  obtain ⟨M, hM⟩ : ∃ M, M = H ++ L := ⟨_, rfl⟩
  rw [← hM]
  obtain ⟨x, hx⟩ : ∃ x, x = lksFlat a := ⟨_, rfl⟩
  obtain ⟨y, hy⟩ : ∃ y, y = lksFlat b := ⟨_, rfl⟩
  have hxl : x.length ≤ lksCount a := by rw [hx]; exact lksFlat_len a
  have hyl : y.length ≤ lksCount b := by rw [hy]; exact lksFlat_len b
  have hxy : lksFlat (a ++ b) = x ++ y := by rw [flat_app, hx, hy]
  rw [← hx] at f1
  rw [← hy] at f2
  clear hx hy
  refine awp_cut (fun _ => false) (fun _ => none) (fun f H' => H' = M ++ [snB x] ∧ f 0 = Lk.sl a ∧ f 1 = Lk.sl b ∧ f 12 = snS M.length x ∧ f 13 = I 0) (by kernel_rfl) ?_ ?_
  · simp -dsimp [g0, g1]
    refine acallsW_of (f1 _) ?_
    rintro _ _ ⟨rfl, rfl⟩
    simp -dsimp [g0, g1]
  clear g g0 g1
  rintro g _ ⟨rfl, g0, g1, g12, g13⟩
  refine awp_cut (fun _ => false) (fun _ => none) (fun f H' => H' = M ++ [snB x] ∧ f 0 = Lk.sl a ∧ f 1 = Lk.sl b ∧ f 12 = snS M.length x ∧ f 13 = I 0 ∧ f 14 = Sn.sl y ∧ f 15 = I 0) (by kernel_rfl) ?_ ?_
  · simp -dsimp [g0, g1, g12, g13]
    refine acallsW_det (f2 _) ?_
    simp -dsimp [g0, g1, g12, g13]
  clear g g0 g1 g12 g13
  rintro g _ ⟨rfl, g0, g1, g12, g13, g14, g15⟩
  refine awp_under fun hu2 => awp_spare 1 ?_
  obtain ⟨N, hN⟩ : ∃ N, N = M ++ [snB x] := ⟨_, rfl⟩
  rw [← hN] at hu2 ⊢
  have hNx : ∀ B : List Blk, (N ++ B)[M.length]? = some (snB x) := fun B => by rw [hN]; simp
  have hNs : ∀ (B : List Blk) X, (N ++ B).set M.length X = M ++ X :: B := fun B X => by rw [hN]; simp
  have hl : (a ++ b).length = a.length + b.length := by simp
  have f3 := FlatG_ok (a ++ b) (by rw [lksCount_app]; omega) hwab N hu2
  rw [hxy] at f3
  have hNe : ∀ X : Blk, (N ++ [Blk.pend]).set N.length X = N ++ [X] := fun X => by simp
  have hNe2 : ∀ X Y : Blk, (N ++ [X]).set N.length Y = N ++ [Y] := fun X Y => by simp
  refine awp_cut (fun d => d == 138 || d == 140) (fun _ => none) (fun f H' => (∃ B, H' = N ++ [B]) ∧ f 12 = snS M.length x ∧ f 13 = I 0 ∧ f 14 = Sn.sl y ∧ f 15 = I 0 ∧ f 16 = Sn.sl (x ++ y) ∧ f 17 = I 0) (by kernel_rfl) ?_ ?_
  · simp -dsimp [g0, g1, g12, g13, g14, g15]
    refine appendVW_nilown N.length (by simp) (by simp; omega) (by simp; omega) ?_
    rw [hNe]
    simp -dsimp [g0, g1, g12, g13, g14, g15]
    refine appendVW_own (k := N.length) (es := a.map Lk.cells) (by simp) (by simp; omega) (by simp; omega) ?_
    rw [hNe2, ← List.map_append]
    simp -dsimp [g0, g1, g12, g13, g14, g15]
    rw [← List.map_append]
    refine acallsW_of f3 ?_
    rintro _ _ ⟨rfl, B, rfl⟩
    simp -dsimp [g0, g1, g12, g13, g14, g15]
  clear g g0 g1 g12 g13 g14 g15
  rintro g _ ⟨⟨B, rfl⟩, g12, g13, g14, g15, g16, g17⟩
  have f4 : ACalls Try.prog 37 [snS M.length (x ++ y), Sn.sl (x ++ y)] (M ++ [snB (x ++ y), B]) (fun e H' => e = .ret (Bo true) ∧ H' = M ++ [snB (x ++ y), B]) := sn_apart1 (by simp) (by
    have := rseen_ok (x ++ y) (x ++ y) (by simp; omega) (by simp; omega) []
    rwa [decide_eq_true rfl] at this)
  refine awp_all (fun d => d == 157) (fun _ => none) (by kernel_rfl) ?_
  simp -dsimp [g12, g13, g14, g15, g16, g17]
  refine appendVW_own (k := M.length) (es := x.map Sn.cells) (hNx _) (by simp; omega) (by simp; omega) ?_
  rw [hNs, ← List.map_append]
  simp -dsimp [g12, g13, g14, g15, g16, g17]
  rw [← List.map_append]
  refine acallsW_det f4 ?_
  simp -dsimp
  refine acallsW_det (c4 _) ?_
  simp -dsimp
  rw [hM, List.append_assoc]
  exact fin _
end Go.Proofs
