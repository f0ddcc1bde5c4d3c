/- The document's May of law 19: code. -/
import Derived.Test.YtganjkhdlehhdaaGreatKN41toAMJ
import Derived.Test.YtganjkhdlehhdaaGreatAVEtoAVI
set_option linter.unusedVariables false
set_option linter.unusedSimpArgs false
set_option maxHeartbeats 4000000
set_option maxRecDepth 100000
namespace Go.Proofs
open Go.Mu
def whA : List Amd → Int → Int → Int
  | [], _, _ => -1
  | a :: l, k, i => if a.op = 19 ∧ a.label = k then i else whA l k (i + 1)
theorem rwhere19_ok (l : List Amd) (hl : l.length ≤ 2^40) (k : Int) (H : List Blk) : ACalls Tryz.prog 41 [Lm.Amd.sl l, I k] H (fun e H' => e = .ret (I (whA l k 0)) ∧ H' = H) := by
  refine acalls_of_vc (hn := fun _ => false) (od := fun _ => none) Tryz.func41 rfl (by kernel_rfl) ?_
  simp -dsimp
  refine loop_rule (hn := fun _ => false) (od := fun _ => none) (fun (i : Nat) f H' => H' = H ∧ f 0 = Lm.Amd.sl l ∧ f 1 = I k ∧ f 5 = I i ∧ i ≤ l.length ∧ whA (l.drop i) k i = whA l k 0) (fun i => l.length - i) (by kernel_rfl) 0 (by simp) ?_
  rintro i f H' ⟨rfl, f0, f1, f5, hi, ht⟩
  simp -dsimp [f0, f1, f5]
  refine condVW_introD (fun hlt => ?_) (fun hlt => ?_)
  · have hlt' : i < l.length := by omega
    have hg : l[i]? = some l[i] := List.getElem?_eq_getElem hlt'
    rw [Lm.drop_cons hlt'] at ht
    obtain ⟨x, hx⟩ : ∃ x, x = l[i] := ⟨_, rfl⟩
    rw [← hx] at ht hg
    clear hx
    obtain ⟨op, bin, shift, cond, dst, src, imm, base, index, hasBase, hasIndex, disp, label⟩ := x
    simp only [whA] at ht
    simp -dsimp [f0, f1, f5, hg]
    by_cases h1 : op = 19
    · subst h1
      by_cases h2 : label = k
      · subst h2
        simp -dsimp [f0, f1, f5, hg]
        rw [← ht]
        simp
      · rw [if_neg (by simp [h2])] at ht
        have e2 : (label == k) = false := by simp [h2]
        simp -dsimp [f0, f1, f5, hg, e2]
        exact ⟨i + 1, by omega, Lm.wrapS (by omega), by omega, ht⟩
    · rw [if_neg (by simp [h1])] at ht
      have e1 : (op == 19) = false := by simp [h1]
      simp -dsimp [f0, f1, f5, hg, e1]
      exact ⟨i + 1, by omega, Lm.wrapS (by omega), by omega, ht⟩
  · simp -dsimp [f0, f1, f5]
    rw [Lm.drop_end (by omega)] at ht
    rw [← ht]
    rfl
def rGood (l : List Amd) (a : Amd) (i : Int) : Bool := rMay1 a && (!((a.op == 19) && (whA l a.label 0 != i)) && !((a.op == 17 || a.op == 18) && decide (whA l a.label 0 < 0)))
def rGoods (l : List Amd) : List Amd → Int → Bool
  | [], _ => true
  | a :: r, i => rGood l a i && rGoods l r (i + 1)
def rMayA (l : List Amd) : Bool := decide (l.length ≤ 1048576) && rGoods l l 0
theorem rmay19_ok (l : List Amd) (hl : l.length ≤ 2^40) (H : List Blk) : ACalls Tryz.prog 11 [Lm.Amd.sl l] H (fun e H' => e = .ret (Bo (rMayA l)) ∧ H' = H) := by
  refine acalls_of_vc (hn := fun _ => false) (od := fun _ => none) Tryz.func11 rfl (by kernel_rfl) ?_
  have cm := rmayone_ok
  have cw := fun k H => rwhere19_ok l hl k H
  simp -dsimp
  refine condVW_introD (fun h0 => ?_) (fun h0 => ?_)
  · simp -dsimp
    simp only [rMayA, Bool.and_eq_false_iff, decide_eq_false_iff_not]
    left
    omega
  have hR : rMayA l = rGoods l l 0 := by rw [rMayA, decide_eq_true (by omega), Bool.true_and]
  rw [hR]
  obtain ⟨R, hRR⟩ : ∃ R, R = rGoods l l 0 := ⟨_, rfl⟩
  rw [← hRR]
  simp -dsimp
  refine loop_rule (hn := fun _ => false) (od := fun _ => none) (fun (i : Nat) f H' => H' = H ∧ f 0 = Lm.Amd.sl l ∧ f 3 = I i ∧ i ≤ l.length ∧ rGoods l (l.drop i) i = R) (fun i => l.length - i) (by kernel_rfl) 0 (by simp [hRR]) ?_
  rintro i f H' ⟨rfl, f0, f3, hi, ht⟩
  simp -dsimp [f0, f3]
  refine condVW_introD (fun hlt => ?_) (fun hlt => ?_)
  · have hlt' : i < l.length := by omega
    have hg : l[i]? = some l[i] := List.getElem?_eq_getElem hlt'
    rw [Lm.drop_cons hlt', rGoods] at ht
    obtain ⟨x, hx⟩ : ∃ x, x = l[i] := ⟨_, rfl⟩
    rw [← hx] at ht hg
    clear hx
    have cm := fun H => cm x H
    have cw := fun H => cw x.label H
    unfold rGood at ht
    obtain ⟨m1, hm1⟩ : ∃ m, m = rMay1 x := ⟨_, rfl⟩
    obtain ⟨w, hw⟩ : ∃ w, w = whA l x.label 0 := ⟨_, rfl⟩
    rw [← hm1] at ht cm
    rw [← hw] at ht cw
    obtain ⟨op, bin, shift, cond, dst, src, imm, base, index, hasBase, hasIndex, disp, label⟩ := x
    simp only [Lm.Amd.cells] at cm cw ht
    clear hm1 hw
    obtain ⟨b19, h19⟩ : ∃ b, (op == 19) = b := ⟨_, rfl⟩
    obtain ⟨b17, h17⟩ : ∃ b, (op == 17) = b := ⟨_, rfl⟩
    obtain ⟨b18, h18⟩ : ∃ b, (op == 18) = b := ⟨_, rfl⟩
    obtain ⟨bw, hbw⟩ : ∃ b, (w != (i : Int)) = b := ⟨_, rfl⟩
    obtain ⟨bn, hbn⟩ : ∃ b, decide (w < 0) = b := ⟨_, rfl⟩
    rw [h19, h17, h18, hbw, hbn] at ht
    have nx : rGoods l (l.drop (i + 1)) ((i : Int) + 1) = R → ∃ y, l.length - y < l.length - i ∧ IntKind.i64.wrap ((i : Int) + 1) = (y : Int) ∧ y ≤ l.length ∧ rGoods l (l.drop y) y = R := fun h => ⟨i + 1, by omega, Lm.wrapS (by omega), by omega, h⟩
    replace nx := Hid.mk nx
    simp -dsimp [f0, f3, hg]
    refine acallsW_det (cm _) ?_
    cases m1
    · simp -dsimp
      rw [← ht]
      rfl
    simp only [Bool.true_and] at ht
    cases b19 <;> cases b17 <;> cases b18
    all_goals simp -dsimp [f0, f3, hg, h19, h17, h18]
    all_goals try (refine acallsW_det (cw _) ?_)
    all_goals cases bw <;> cases bn
    all_goals try simp -dsimp [f0, f3, hg, h19, h17, h18, hbw, hbn]
    all_goals try (refine acallsW_det (cw _) ?_)
    all_goals try simp -dsimp [f0, f3, hg, h19, h17, h18, hbw, hbn]
    all_goals simp at ht
    all_goals first
      | (exact nx.out ht)
      | (exact ht)
      | (exact ht.symm)
      | skip
  · simp -dsimp [f0, f3]
    rw [Lm.drop_end (by omega)] at ht
    rw [← ht]
    rfl
theorem keys_shift : ∀ (l : List Amd) (m n : Nat), (Lm.labsA l m).map (·.1) = (Lm.labsA l n).map (·.1)
  | [], _, _ => rfl
  | a :: l, m, n => by
    rw [Lm.labsA, Lm.labsA]
    split
    · rw [List.map_cons, List.map_cons, keys_shift l (m + 1) (n + 1)]
    · exact keys_shift l _ _
theorem whA_mem : ∀ (l : List Amd) (k n : Int), 0 ≤ n → (whA l k n < 0 ↔ k ∉ Lm.keysA l)
  | [], k, n, hn => by simp [whA, Lm.keysA, Lm.labsA]
  | a :: l, k, n, hn => by
    have ih := whA_mem l k (n + 1) (by omega)
    unfold Lm.keysA at ih ⊢
    rw [whA, Lm.labsA]
    by_cases h : a.op = 19
    · rw [if_pos h, List.map_cons, keys_shift l 1 0]
      by_cases h2 : a.label = k
      · rw [if_pos ⟨h, h2⟩]
        simp [h2]; omega
      · rw [if_neg (fun e => h2 e.2), ih]
        simp only [List.mem_cons, not_or]
        exact ⟨fun e => ⟨fun e2 => h2 e2.symm, e⟩, fun e => e.2⟩
    · rw [if_neg h, if_neg (fun e => h e.1), keys_shift l 1 0]
      exact ih
theorem whA_nodup : ∀ (l : List Amd) (n : Int), 0 ≤ n → ((Lm.keysA l).Nodup ↔ ∀ i (h : i < l.length), l[i].op = 19 → whA l l[i].label n = n + i)
  | [], n, hn => by simp [Lm.keysA, Lm.labsA]
  | a :: l, n, hn => by
    have ih := whA_nodup l (n + 1) (by omega)
    have hm := fun k => whA_mem l k (n + 1) (by omega)
    have hk : Lm.keysA (a :: l) = if a.op = 19 then a.label :: Lm.keysA l else Lm.keysA l := by
      unfold Lm.keysA
      rw [Lm.labsA]
      split
      · rw [List.map_cons, keys_shift l 1 0]
      · rw [keys_shift l 1 0]
    rw [hk]
    by_cases h : a.op = 19
    · rw [if_pos h, List.nodup_cons, ih]
      constructor
      · rintro ⟨h1, h2⟩ i hi ho
        cases i with
        | zero => rw [whA, if_pos ⟨h, rfl⟩]; simp
        | succ i =>
          simp only [List.length_cons] at hi
          have hi' : i < l.length := by omega
          simp only [List.getElem_cons_succ] at ho ⊢
          have hne : a.label ≠ l[i].label := fun e => h1 (by
            rw [e]
            exact Classical.byContradiction fun hc => by
              have h3 := (hm l[i].label).2 hc
              have h4 := h2 i hi' ho
              omega)
          rw [whA, if_neg (fun e => hne e.2), h2 i hi' ho]
          omega
      · intro hall
        refine ⟨fun hmem => ?_, fun i hi ho => ?_⟩
        · have : ∃ i, ∃ hi : i < l.length, l[i].op = 19 ∧ l[i].label = a.label := by
            clear ih hm hk hall
            unfold Lm.keysA at hmem
            have key : ∀ (l : List Amd) (m : Nat), a.label ∈ (Lm.labsA l m).map (·.1) → ∃ i, ∃ hi : i < l.length, l[i].op = 19 ∧ l[i].label = a.label := by
              intro l
              induction l with
              | nil => intro m h; simp [Lm.labsA] at h
              | cons b l ih =>
                intro m hm
                rw [Lm.labsA] at hm
                by_cases hb : b.op = 19
                · rw [if_pos hb, List.map_cons, List.mem_cons] at hm
                  rcases hm with hm | hm
                  · exact ⟨0, by simp, hb, hm.symm⟩
                  · obtain ⟨i, hi, h1, h2⟩ := ih _ hm
                    exact ⟨i + 1, by simp; omega, h1, h2⟩
                · rw [if_neg hb] at hm
                  obtain ⟨i, hi, h1, h2⟩ := ih _ hm
                  exact ⟨i + 1, by simp; omega, h1, h2⟩
            exact key l 0 hmem
          obtain ⟨i, hi, h1, h2⟩ := this
          have := hall (i + 1) (by simp; omega) h1
          simp only [List.getElem_cons_succ] at this
          rw [whA, if_pos ⟨h, h2.symm⟩] at this
          omega
        · have := hall (i + 1) (by simp; omega) ho
          simp only [List.getElem_cons_succ] at this
          by_cases e : a.label = l[i].label
          · rw [whA, if_pos ⟨h, e⟩] at this; omega
          · rw [whA, if_neg (fun q => e q.2)] at this
            omega
    · rw [if_neg h, ih]
      constructor
      · intro hall i hi ho
        cases i with
        | zero => exact absurd ho h
        | succ i =>
          simp only [List.getElem_cons_succ] at ho ⊢
          rw [whA, if_neg (fun e => h e.1), hall i (by simp at hi; omega) ho]
          omega
      · intro hall i hi ho
        have := hall (i + 1) (by simp; omega) ho
        simp only [List.getElem_cons_succ] at this
        rw [whA, if_neg (fun e => h e.1)] at this
        omega
theorem rGoods_iff (l : List Amd) : ∀ (r : List Amd) (n : Int), rGoods l r n = true ↔ ∀ i (h : i < r.length), rGood l r[i] (n + i) = true
  | [], n => by simp [rGoods]
  | a :: r, n => by
    rw [rGoods, Bool.and_eq_true, rGoods_iff l r (n + 1)]
    constructor
    · rintro ⟨h1, h2⟩ i hi
      cases i with
      | zero => simpa using h1
      | succ i =>
        have := h2 i (by simp at hi; omega)
        simp only [List.getElem_cons_succ]
        rw [show n + ((i + 1 : Nat) : Int) = n + 1 + i by omega]
        exact this
    · intro h
      refine ⟨by have := h 0 (by simp); rw [show n + ((0 : Nat) : Int) = n by omega] at this; exact this, fun i hi => ?_⟩
      have := h (i + 1) (by simp; omega)
      simp only [List.getElem_cons_succ] at this
      rw [show n + ((i + 1 : Nat) : Int) = n + 1 + i by omega] at this
      exact this
theorem rMayA_eq (l : List Amd) (hw : ∀ i ∈ l, Wd i.imm ∧ -9223372036854775808 ≤ i.disp ∧ i.disp ≤ 9223372036854775807) : rMayA l = Lm.mayA l := by
  unfold rMayA Lm.mayA
  rw [Bool.and_assoc]
  congr 1
  rw [Bool.eq_iff_iff, rGoods_iff, Bool.and_eq_true, decide_eq_true_eq, whA_nodup l 0 (by omega), List.all_eq_true]
  have one : ∀ i (h : i < l.length), rMay1 l[i] = Lm.mayOne l[i] := fun i h => rMay1_eq _ (hw _ (List.getElem_mem h)).1 (hw _ (List.getElem_mem h)).2
  constructor
  · intro h
    refine ⟨fun i hi ho => ?_, fun a ha => ?_⟩
    · have := h i hi
      unfold rGood at this
      simp only [Bool.and_eq_true, Bool.not_eq_true', Bool.and_eq_false_iff] at this
      rcases this.2.1 with h1 | h1
      · simp [ho] at h1
      · simpa using h1
    · obtain ⟨i, hi, rfl⟩ := List.mem_iff_getElem.1 ha
      have := h i hi
      unfold rGood at this
      rw [one i hi] at this
      unfold Lm.goodA
      simp only [Bool.and_eq_true, Bool.not_eq_true', Bool.and_eq_false_iff, decide_eq_false_iff_not] at this
      rw [Bool.and_eq_true, this.1]
      refine ⟨rfl, ?_⟩
      rcases this.2.2 with h1 | h1
      · rw [h1]; rfl
      · rw [whA_mem l _ 0 (by omega)] at h1
        have : l[i].label ∈ Lm.keysA l := Classical.byContradiction h1
        simp [this]
  · rintro ⟨h1, h2⟩ i hi
    have h3 := h2 _ (List.getElem_mem hi)
    unfold Lm.goodA at h3
    rw [Bool.and_eq_true] at h3
    unfold rGood
    rw [one i hi, h3.1]
    simp only [Bool.true_and, Bool.and_eq_true, Bool.not_eq_true', Bool.and_eq_false_iff, decide_eq_false_iff_not]
    refine ⟨?_, ?_⟩
    · by_cases ho : l[i].op = 19
      · right
        have := h1 i hi ho
        simp [this]
      · left; simp [ho]
    · have h4 := h3.2
      rw [Bool.or_eq_true] at h4
      rcases h4 with h4 | h4
      · left; simpa using h4
      · right
        rw [whA_mem l _ 0 (by omega)]
        exact fun hc => hc (of_decide_eq_true h4)
end Go.Proofs
namespace Go.Proofs
open Go.Mu
theorem wh_look (k : Int) : ∀ (l : List Lm.Amd) (n : Nat), whA l k n = ((Lm.labsA l n).lookup k).getD (-1)
  | [], n => rfl
  | a :: l, n => by
    have ih := wh_look k l (n + 1)
    rw [show ((n + 1 : Nat) : Int) = (n : Int) + 1 from by omega] at ih
    rw [whA, Lm.labsA]
    by_cases h : a.op = 19
    · rw [if_pos h, List.lookup_cons]
      by_cases hk : a.label = k
      · rw [if_pos ⟨h, hk⟩]
        have : (k == a.label) = true := by simp [hk]
        rw [this]; rfl
      · rw [if_neg (fun e => hk e.2)]
        have : (k == a.label) = false := by simp; exact fun e => hk e.symm
        rw [this]; exact ih
    · rw [if_neg h, if_neg (fun e => h e.1)]; exact ih
end Go.Proofs
