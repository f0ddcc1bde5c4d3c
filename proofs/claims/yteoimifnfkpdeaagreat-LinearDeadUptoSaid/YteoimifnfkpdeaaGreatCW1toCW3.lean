/- Linear code: lists; instructions that may be. -/
import Derived.Test.YteoimifnfkpdeaaGreatCL2toCZ1
set_option linter.unusedVariables false
set_option linter.unusedSimpArgs false
set_option maxHeartbeats 4000000
set_option maxRecDepth 100000
namespace Go.Proofs
open Go.Mu
theorem int_indexF (l : List Int) (p : Int → Bool) (g : FuncId) (cap : List AV) (hok : okFn Tryz.prog g = true) (hl : l.length ≤ 2^40) (H : List Blk) (hg : ∀ x ∈ l, ACalls Tryz.prog g (I x :: cap) H (fun e H' => e = .ret (Bo (p x)) ∧ H' = H)) :
    ACalls Tryz.prog 132 [.vs 1 (l.map fun x => [I x]), .fn (.func g) [] cap] H (fun e H' => e = .ret (I (idxP p l 0)) ∧ H' = H) := by
  refine acalls_tidy (acalls_of_vc (hn := fun _ => false) (od := fun _ => none) Tryz.func132 rfl (by kernel_rfl) ?_)
  simp -dsimp
  refine loop_rule (hn := fun _ => false) (od := fun _ => none) (fun (i : Nat) f H' => H' = H ∧ f 0 = .vs 1 (l.map fun x => [I x]) ∧ f 1 = .fn (.func g) [] cap ∧ f 7 = I l.length ∧ f 8 = I i ∧ i ≤ l.length ∧ idxP p (l.drop i) i = idxP p l 0) (fun i => l.length - i) (by kernel_rfl) 0 (by simp) ?_
  rintro i f H' ⟨rfl, h0, h1, h7, h8, hi, hinv⟩
  simp -dsimp [h0, h1, h7, h8]
  refine condVW_introD (fun hlt => ?_) (fun hlt => ?_)
  · rw [drop_cons hlt, idxP] at hinv
    have hx := hg l[i] (List.getElem_mem hlt)
    try simp only [Vr.cells, Fc.cells] at hx
    simp -dsimp [h0, h1, h7, h8, List.getElem?_eq_getElem, hlt, hok]
    refine acallsW_det hx ?_
    simp -dsimp
    refine condVW_intro (fun hp => ?_) (fun hp => ?_)
    · simp -dsimp
      rw [if_pos hp] at hinv
      exact tidy_now rfl ⟨by rw [hinv], rfl⟩
    · simp -dsimp [h0, h1, h7, h8]
      rw [if_neg (by simp [hp])] at hinv
      exact ⟨i + 1, by omega, wrapS (by omega), by omega, by simpa using hinv⟩
  · simp -dsimp
    rw [drop_end hlt, idxP] at hinv
    exact tidy_now rfl ⟨by rw [hinv], rfl⟩
theorem int_containsF (l : List Int) (p : Int → Bool) (g : FuncId) (cap : List AV) (hok : okFn Tryz.prog g = true) (hl : l.length ≤ 2^40) (H : List Blk) (hg : ∀ x ∈ l, ACalls Tryz.prog g (I x :: cap) H (fun e H' => e = .ret (Bo (p x)) ∧ H' = H)) :
    ACalls Tryz.prog 112 [.vs 1 (l.map fun x => [I x]), .fn (.func g) [] cap] H (fun e H' => e = .ret (Bo (l.any p)) ∧ H' = H) := by
  refine acalls_tidy (acalls_of_vc (hn := fun _ => false) (od := fun _ => none) Tryz.func112 rfl (by kernel_rfl) ?_)
  simp -dsimp
  refine acallsW_det (int_indexF l p g cap hok hl _ hg) ?_
  simp -dsimp
  exact tidy_now rfl ⟨by rw [idxP_any _ _ _ (Int.le_refl 0)], rfl⟩
theorem int_index (l : List Int) (s : Int) (hl : l.length ≤ 2^40) (H : List Blk) : ACalls Tryz.prog 79 [.vs 1 (l.map fun x => [I x]), I s] H (fun e H' => e = .ret (I (idxP (fun x => decide (s = x)) l 0)) ∧ H' = H) := by
  refine acalls_tidy (acalls_of_vc (hn := fun _ => false) (od := fun _ => none) Tryz.func79 rfl (by kernel_rfl) ?_)
  simp -dsimp
  refine loop_rule (hn := fun _ => false) (od := fun _ => none) (fun (i : Nat) f H' => H' = H ∧ f 0 = .vs 1 (l.map fun x => [I x]) ∧ f 1 = I s ∧ f 7 = I l.length ∧ f 8 = I i ∧ i ≤ l.length ∧ idxP (fun x => decide (s = x)) (l.drop i) i = idxP (fun x => decide (s = x)) l 0) (fun i => l.length - i) (by kernel_rfl) 0 (by simp) ?_
  rintro i f H' ⟨rfl, h0, h1, h7, h8, hi, hinv⟩
  simp -dsimp [h0, h1, h7, h8]
  refine condVW_introD (fun hlt => ?_) (fun hlt => ?_)
  · rw [drop_cons hlt, idxP] at hinv
    simp -dsimp [h0, h1, h7, h8, List.getElem?_eq_getElem, hlt]
    refine condVW_introEq (fun hp => ?_) (fun hp => ?_)
    · simp -dsimp
      rw [if_pos (by simpa using hp)] at hinv
      exact tidy_now rfl ⟨by rw [hinv], rfl⟩
    · simp -dsimp [h0, h1, h7, h8]
      rw [if_neg (by simpa using hp)] at hinv
      exact ⟨i + 1, by omega, wrapS (by omega), by omega, by simpa using hinv⟩
  · simp -dsimp
    rw [drop_end hlt, idxP] at hinv
    exact tidy_now rfl ⟨by rw [hinv], rfl⟩
theorem int_contains (l : List Int) (s : Int) (hl : l.length ≤ 2^40) (H : List Blk) : ACalls Tryz.prog 44 [.vs 1 (l.map fun x => [I x]), I s] H (fun e H' => e = .ret (Bo (l.any fun x => decide (s = x))) ∧ H' = H) := by
  refine acalls_tidy (acalls_of_vc (hn := fun _ => false) (od := fun _ => none) Tryz.func44 rfl (by kernel_rfl) ?_)
  simp -dsimp
  refine acallsW_det (int_index l s hl _) ?_
  simp -dsimp
  exact tidy_now rfl ⟨by rw [idxP_any _ _ _ (Int.le_refl 0)], rfl⟩
theorem line_indexF (l : List Line) (p : Line → Bool) (g : FuncId) (cap : List AV) (hok : okFn Tryz.prog g = true) (hl : l.length ≤ 2^40) (H : List Blk) (hg : ∀ x ∈ l, ACalls Tryz.prog g (.agg x.cells :: cap) H (fun e H' => e = .ret (Bo (p x)) ∧ H' = H)) :
    ACalls Tryz.prog 88 [.vs 11 (l.map fun x => x.cells), .fn (.func g) [] cap] H (fun e H' => e = .ret (I (idxP p l 0)) ∧ H' = H) := by
  refine acalls_tidy (acalls_of_vc (hn := fun _ => false) (od := fun _ => none) Tryz.func88 rfl (by kernel_rfl) ?_)
  simp -dsimp
  refine loop_rule (hn := fun _ => false) (od := fun _ => none) (fun (i : Nat) f H' => H' = H ∧ f 0 = .vs 11 (l.map fun x => x.cells) ∧ f 1 = .fn (.func g) [] cap ∧ f 7 = I l.length ∧ f 8 = I i ∧ i ≤ l.length ∧ idxP p (l.drop i) i = idxP p l 0) (fun i => l.length - i) (by kernel_rfl) 0 (by simp) ?_
  rintro i f H' ⟨rfl, h0, h1, h7, h8, hi, hinv⟩
  simp -dsimp [h0, h1, h7, h8]
  refine condVW_introD (fun hlt => ?_) (fun hlt => ?_)
  · rw [drop_cons hlt, idxP] at hinv
    have hx := hg l[i] (List.getElem_mem hlt)
    try simp only [Vr.cells, Fc.cells] at hx
    simp -dsimp [h0, h1, h7, h8, List.getElem?_eq_getElem, hlt, hok]
    refine acallsW_det hx ?_
    simp -dsimp
    refine condVW_intro (fun hp => ?_) (fun hp => ?_)
    · simp -dsimp
      rw [if_pos hp] at hinv
      exact tidy_now rfl ⟨by rw [hinv], rfl⟩
    · simp -dsimp [h0, h1, h7, h8]
      rw [if_neg (by simp [hp])] at hinv
      exact ⟨i + 1, by omega, wrapS (by omega), by omega, by simpa using hinv⟩
  · simp -dsimp
    rw [drop_end hlt, idxP] at hinv
    exact tidy_now rfl ⟨by rw [hinv], rfl⟩
theorem line_containsF (l : List Line) (p : Line → Bool) (g : FuncId) (cap : List AV) (hok : okFn Tryz.prog g = true) (hl : l.length ≤ 2^40) (H : List Blk) (hg : ∀ x ∈ l, ACalls Tryz.prog g (.agg x.cells :: cap) H (fun e H' => e = .ret (Bo (p x)) ∧ H' = H)) :
    ACalls Tryz.prog 53 [.vs 11 (l.map fun x => x.cells), .fn (.func g) [] cap] H (fun e H' => e = .ret (Bo (l.any p)) ∧ H' = H) := by
  refine acalls_tidy (acalls_of_vc (hn := fun _ => false) (od := fun _ => none) Tryz.func53 rfl (by kernel_rfl) ?_)
  simp -dsimp
  refine acallsW_det (line_indexF l p g cap hok hl _ hg) ?_
  simp -dsimp
  exact tidy_now rfl ⟨by rw [idxP_any _ _ _ (Int.le_refl 0)], rfl⟩
theorem sameInts_ok (a b : List Int) (H : List Blk) (hl : a.length ≤ 2^40) : ACalls Tryz.prog 75 [Int.sl a, Int.sl b] H (fun e H' => e = .ret (Bo (decide (a = b))) ∧ H' = H) := by
  refine acalls_of_vc (hn := fun _ => false) (od := fun _ => none) Tryz.func75 rfl (by kernel_rfl) ?_
  simp -dsimp
  refine condVW_introNE (fun hn _ _ => ?_) (fun hn => ?_)
  · simp -dsimp
    rintro rfl; exact hn rfl
  have hab : a.length = b.length := by omega
  simp -dsimp
  refine loop_rule (hn := fun _ => false) (od := fun _ => none) (fun (i : Nat) f H' => H' = H ∧ f 0 = Int.sl a ∧ f 1 = Int.sl b ∧ f 5 = I i ∧ i ≤ a.length ∧ (a.drop i = b.drop i ↔ a = b)) (fun i => a.length - i) (by kernel_rfl) 0 (by simp) ?_
  rintro i f H' ⟨rfl, h0, h1, h5, hi, ht⟩
  simp -dsimp [h0, h1, h5]
  refine condVW_introD (fun hlt => ?_) (fun hlt => ?_)
  · have hltb : i < b.length := by omega
    simp -dsimp [h0, h1, h5, List.getElem?_eq_getElem, hlt, hltb]
    rw [drop_cons hlt, drop_cons hltb, List.cons.injEq] at ht
    repeat' ((with_reducible first | refine And.intro ?_ ?_ | refine guardVW_introTD (fun _ => ?_) (fun _ => ?_) | refine guardVW_introFD (fun _ => ?_) (fun _ => ?_) | refine condVW_introD (fun _ => ?_) (fun _ => ?_) | refine guardVW_introTE (fun _ => ?_) (fun _ _ _ => ?_) | refine guardVW_introFE (fun _ => ?_) (fun _ _ _ => ?_) | refine condVW_introE (fun _ => ?_) (fun _ _ _ => ?_) | refine guardVW_introTNE (fun _ _ _ => ?_) (fun _ => ?_) | refine guardVW_introFNE (fun _ _ _ => ?_) (fun _ => ?_) | refine condVW_introNE (fun _ _ _ => ?_) (fun _ => ?_) | refine guardVW_introTB (fun _ => ?_) (fun _ => ?_) | refine guardVW_introFB (fun _ => ?_) (fun _ => ?_) | refine condVW_introB (fun _ => ?_) (fun _ => ?_) | refine guardVW_introT (fun _ => ?_) (fun _ => ?_) | refine guardVW_introF (fun _ => ?_) (fun _ => ?_) | refine condVW_intro (fun _ => ?_) (fun _ => ?_)) <;> simp -dsimp [*])
    · rename_i h _ _; simp [← ht, h]
    · rename_i h
      exact ⟨i + 1, by omega, wrapS (by omega), by omega, by rw [← ht]; simp [h]⟩
  · simp -dsimp [h0, h1, h5]
    rw [drop_end hlt, drop_end (by omega)] at ht
    exact ht.1 rfl
theorem ris_ok (n vars : Int) (H : List Blk) : ACalls Tryz.prog 68 [I n, I vars] H (fun e H' => e = .ret (Bo (isVr n vars)) ∧ H' = H) := by
  refine acalls_of_vc (hn := fun _ => false) (od := fun _ => none) Tryz.func68 rfl (by kernel_rfl) ?_
  simp -dsimp
  repeat' ((with_reducible first | refine And.intro ?_ ?_ | refine guardVW_introTD (fun _ => ?_) (fun _ => ?_) | refine guardVW_introFD (fun _ => ?_) (fun _ => ?_) | refine condVW_introD (fun _ => ?_) (fun _ => ?_) | refine guardVW_introTE (fun _ => ?_) (fun _ _ _ => ?_) | refine guardVW_introFE (fun _ => ?_) (fun _ _ _ => ?_) | refine condVW_introE (fun _ => ?_) (fun _ _ _ => ?_) | refine guardVW_introTNE (fun _ _ _ => ?_) (fun _ => ?_) | refine guardVW_introFNE (fun _ _ _ => ?_) (fun _ => ?_) | refine condVW_introNE (fun _ _ _ => ?_) (fun _ => ?_) | refine guardVW_introTB (fun _ => ?_) (fun _ => ?_) | refine guardVW_introFB (fun _ => ?_) (fun _ => ?_) | refine condVW_introB (fun _ => ?_) (fun _ => ?_) | refine guardVW_introT (fun _ => ?_) (fun _ => ?_) | refine guardVW_introF (fun _ => ?_) (fun _ => ?_) | refine condVW_intro (fun _ => ?_) (fun _ => ?_)) <;> simp -dsimp [*])
  all_goals simp [isVr, *]
theorem asking_is (k : Nat) (t : Nat) (vars nodes n : Int) (H : List Blk) (hk : H[k]? = some (.box t [I vars, I nodes])) : ACalls Tryz.prog 111 [.bp k 0, I n] H (fun e H' => e = .ret (Bo (isVr n vars)) ∧ H' = H) := by
  refine acalls_of_vc (hn := fun _ => false) (od := fun _ => none) Tryz.func111 rfl (by kernel_rfl) ?_
  simp -dsimp [hk]
  repeat' ((with_reducible first | refine And.intro ?_ ?_ | refine guardVW_introTD (fun _ => ?_) (fun _ => ?_) | refine guardVW_introFD (fun _ => ?_) (fun _ => ?_) | refine condVW_introD (fun _ => ?_) (fun _ => ?_) | refine guardVW_introTE (fun _ => ?_) (fun _ _ _ => ?_) | refine guardVW_introFE (fun _ => ?_) (fun _ _ _ => ?_) | refine condVW_introE (fun _ => ?_) (fun _ _ _ => ?_) | refine guardVW_introTNE (fun _ _ _ => ?_) (fun _ => ?_) | refine guardVW_introFNE (fun _ _ _ => ?_) (fun _ => ?_) | refine condVW_introNE (fun _ _ _ => ?_) (fun _ => ?_) | refine guardVW_introTB (fun _ => ?_) (fun _ => ?_) | refine guardVW_introFB (fun _ => ?_) (fun _ => ?_) | refine condVW_introB (fun _ => ?_) (fun _ => ?_) | refine guardVW_introT (fun _ => ?_) (fun _ => ?_) | refine guardVW_introF (fun _ => ?_) (fun _ => ?_) | refine condVW_intro (fun _ => ?_) (fun _ => ?_)) <;> simp -dsimp [*])
  all_goals simp [isVr, *]
theorem arI_ok (op : Int) (H : List Blk) : ACalls Tryz.prog 175 [I op] H (fun e H' => e = .ret (I (arityI op)) ∧ H' = H) := by
  refine acalls_of_vc (hn := fun _ => false) (od := fun _ => none) Tryz.func175 rfl (by kernel_rfl) ?_
  simp -dsimp
  repeat' ((with_reducible first | refine And.intro ?_ ?_ | refine guardVW_introTD (fun _ => ?_) (fun _ => ?_) | refine guardVW_introFD (fun _ => ?_) (fun _ => ?_) | refine condVW_introD (fun _ => ?_) (fun _ => ?_) | refine guardVW_introTE (fun _ => ?_) (fun _ _ _ => ?_) | refine guardVW_introFE (fun _ => ?_) (fun _ _ _ => ?_) | refine condVW_introE (fun _ => ?_) (fun _ _ _ => ?_) | refine guardVW_introTNE (fun _ _ _ => ?_) (fun _ => ?_) | refine guardVW_introFNE (fun _ _ _ => ?_) (fun _ => ?_) | refine condVW_introNE (fun _ _ _ => ?_) (fun _ => ?_) | refine guardVW_introTB (fun _ => ?_) (fun _ => ?_) | refine guardVW_introFB (fun _ => ?_) (fun _ => ?_) | refine condVW_introB (fun _ => ?_) (fun _ => ?_) | refine guardVW_introT (fun _ => ?_) (fun _ => ?_) | refine guardVW_introF (fun _ => ?_) (fun _ => ?_) | refine condVW_intro (fun _ => ?_) (fun _ => ?_)) <;> simp -dsimp [*])
  all_goals (simp [arityI, *] <;> grind)
theorem argI_ok (op : Int) (h1 : 4 ≤ op) (h2 : op ≤ 21) (H : List Blk) : ACalls Tryz.prog 110 [I op] H (fun e H' => e = .ret (I (arityI op)) ∧ H' = H) := by
  refine acalls_of_vc (hn := fun _ => false) (od := fun _ => none) Tryz.func110 rfl (by kernel_rfl) ?_
  simp -dsimp
  repeat' ((with_reducible first | refine And.intro ?_ ?_ | refine guardVW_introTD (fun _ => ?_) (fun _ => ?_) | refine guardVW_introFD (fun _ => ?_) (fun _ => ?_) | refine condVW_introD (fun _ => ?_) (fun _ => ?_) | refine guardVW_introTE (fun _ => ?_) (fun _ _ _ => ?_) | refine guardVW_introFE (fun _ => ?_) (fun _ _ _ => ?_) | refine condVW_introE (fun _ => ?_) (fun _ _ _ => ?_) | refine guardVW_introTNE (fun _ _ _ => ?_) (fun _ => ?_) | refine guardVW_introFNE (fun _ _ _ => ?_) (fun _ => ?_) | refine condVW_introNE (fun _ _ _ => ?_) (fun _ => ?_) | refine guardVW_introTB (fun _ => ?_) (fun _ => ?_) | refine guardVW_introFB (fun _ => ?_) (fun _ => ?_) | refine condVW_introB (fun _ => ?_) (fun _ => ?_) | refine guardVW_introT (fun _ => ?_) (fun _ => ?_) | refine guardVW_introF (fun _ => ?_) (fun _ => ?_) | refine condVW_intro (fun _ => ?_) (fun _ => ?_)) <;> simp -dsimp [*])
  all_goals (simp [arityI, *] <;> grind)
theorem rarI_ok (op : Int) (H : List Blk) : ACalls Tryz.prog 69 [I op] H (fun e H' => e = .ret (I (arityI op)) ∧ H' = H) := by
  refine acalls_of_vc (hn := fun _ => false) (od := fun _ => none) Tryz.func69 rfl (by kernel_rfl) ?_
  simp -dsimp
  repeat' ((with_reducible first | refine And.intro ?_ ?_ | refine guardVW_introTD (fun _ => ?_) (fun _ => ?_) | refine guardVW_introFD (fun _ => ?_) (fun _ => ?_) | refine condVW_introD (fun _ => ?_) (fun _ => ?_) | refine guardVW_introTE (fun _ => ?_) (fun _ _ _ => ?_) | refine guardVW_introFE (fun _ => ?_) (fun _ _ _ => ?_) | refine condVW_introE (fun _ => ?_) (fun _ _ _ => ?_) | refine guardVW_introTNE (fun _ _ _ => ?_) (fun _ => ?_) | refine guardVW_introFNE (fun _ _ _ => ?_) (fun _ => ?_) | refine condVW_introNE (fun _ _ _ => ?_) (fun _ => ?_) | refine guardVW_introTB (fun _ => ?_) (fun _ => ?_) | refine guardVW_introFB (fun _ => ?_) (fun _ => ?_) | refine condVW_introB (fun _ => ?_) (fun _ => ?_) | refine guardVW_introT (fun _ => ?_) (fun _ => ?_) | refine guardVW_introF (fun _ => ?_) (fun _ => ?_) | refine condVW_intro (fun _ => ?_) (fun _ => ?_) | refine acallsW_det (argI_ok _ (by omega) (by omega) _) ?_ | refine callDW_intro (argI_ok _ (by omega) (by omega) _) ?_) <;> simp -dsimp [*])
  all_goals (simp [arityI, *] <;> grind)
theorem arity_01 (op : Int) : arityI op = 0 ∨ arityI op = 1 ∨ arityI op = 2 ∨ arityI op = 3 := by unfold arityI; grind
theorem rins_ok (x : Ins) (vars : Int) (H : List Blk) : ACalls Tryz.prog 36 [.agg x.cells, I vars] H (fun e H' => e = .ret (Bo (insOk vars x)) ∧ H' = H) := by
  refine acalls_tidy (acalls_of_vc (hn := fun _ => false) (od := fun _ => none) Tryz.func36 rfl (by kernel_rfl) ?_)
  simp -dsimp
  repeat' ((with_reducible first | refine And.intro ?_ ?_ | refine guardVW_introTD (fun _ => ?_) (fun _ => ?_) | refine guardVW_introFD (fun _ => ?_) (fun _ => ?_) | refine condVW_introD (fun _ => ?_) (fun _ => ?_) | refine guardVW_introTE (fun _ => ?_) (fun _ _ _ => ?_) | refine guardVW_introFE (fun _ => ?_) (fun _ _ _ => ?_) | refine condVW_introE (fun _ => ?_) (fun _ _ _ => ?_) | refine guardVW_introTNE (fun _ _ _ => ?_) (fun _ => ?_) | refine guardVW_introFNE (fun _ _ _ => ?_) (fun _ => ?_) | refine condVW_introNE (fun _ _ _ => ?_) (fun _ => ?_) | refine guardVW_introTB (fun _ => ?_) (fun _ => ?_) | refine guardVW_introFB (fun _ => ?_) (fun _ => ?_) | refine condVW_introB (fun _ => ?_) (fun _ => ?_) | refine guardVW_introT (fun _ => ?_) (fun _ => ?_) | refine guardVW_introF (fun _ => ?_) (fun _ => ?_) | refine condVW_intro (fun _ => ?_) (fun _ => ?_) | refine acallsW_det (ris_ok _ _ _) ?_ | refine callDW_intro (ris_ok _ _ _) ?_ | refine acallsW_det (rarI_ok _ _) ?_ | refine callDW_intro (rarI_ok _ _) ?_) <;> simp -dsimp [*])
  all_goals refine tidy_same (by first | rfl | simp [AV.under, underL]) ?_
  all_goals refine ⟨congrArg (fun b => AE.ret (Bo b)) ?_, rfl⟩
  all_goals first | (simp_all [insOk]; done) | (have ha := arity_01 x.op; simp only [insOk, isVr] at *; grind)
theorem asking_ins (k : Nat) (t : Nat) (vars nodes : Int) (x : Ins) (H : List Blk) (hk : H[k]? = some (.box t [I vars, I nodes])) : ACalls Tryz.prog 133 [.bp k 0, .agg x.cells] H (fun e H' => e = .ret (Bo (insOk vars x)) ∧ H' = H) := by
  refine acalls_tidy (acalls_of_vc (hn := fun _ => false) (od := fun i => if i = 14 then some [(0, []), (1, []), (2, []), (3, []), (4, []), (5, [2, 3]), (6, []), (7, [])] else if i = 20 then some [(0, []), (1, []), (2, []), (3, [0, 1]), (4, []), (5, [])] else if i = 23 then some [(0, []), (1, []), (2, []), (3, []), (4, []), (5, []), (6, []), (7, [2, 3, 4, 5]), (8, []), (9, [4, 5]), (10, []), (11, [])] else none) Tryz.func133 rfl (by kernel_rfl) ?_)
  have hk' := fun L => get_app_old hk L
  simp -dsimp [hk]
  repeat' ((with_reducible first | refine And.intro ?_ ?_ | refine guardVW_introTD (fun _ => ?_) (fun _ => ?_) | refine guardVW_introFD (fun _ => ?_) (fun _ => ?_) | refine condVW_introD (fun _ => ?_) (fun _ => ?_) | refine guardVW_introTE (fun _ => ?_) (fun _ _ _ => ?_) | refine guardVW_introFE (fun _ => ?_) (fun _ _ _ => ?_) | refine condVW_introE (fun _ => ?_) (fun _ _ _ => ?_) | refine guardVW_introTNE (fun _ _ _ => ?_) (fun _ => ?_) | refine guardVW_introFNE (fun _ _ _ => ?_) (fun _ => ?_) | refine condVW_introNE (fun _ _ _ => ?_) (fun _ => ?_) | refine guardVW_introTB (fun _ => ?_) (fun _ => ?_) | refine guardVW_introFB (fun _ => ?_) (fun _ => ?_) | refine condVW_introB (fun _ => ?_) (fun _ => ?_) | refine guardVW_introT (fun _ => ?_) (fun _ => ?_) | refine guardVW_introF (fun _ => ?_) (fun _ => ?_) | refine condVW_intro (fun _ => ?_) (fun _ => ?_) | refine acallsW_det (asking_is _ _ _ _ _ _ (hk' _)) ?_ | refine callDW_intro (asking_is _ _ _ _ _ _ (hk' _)) ?_ | refine acallsW_det (arI_ok _ _) ?_ | refine callDW_intro (arI_ok _ _) ?_) <;> simp -dsimp [*])
  all_goals refine tidy_same (by first | rfl | simp [AV.under, underL]) ?_
  all_goals refine ⟨?_, rfl⟩
  all_goals clear hk hk'
  all_goals refine congrArg (fun b => AE.ret (Bo b)) ?_
  all_goals first | (simp_all [insOk]; done) | (have ha := arity_01 x.op; simp only [insOk, isVr] at *; grind)
end Go.Proofs
namespace Go.Proofs
open Go.Mu
theorem zero_ins (x : Ins) : (!x.kind == 0 || (!x.op == 0 || (!x.d == 0 || (!x.a == 0 || (!x.b == 0 || (!x.c == 0 || (!x.word == 0 || x.stack))))))) = !decide (x = zeroIns) := by
  rw [Bool.eq_iff_iff]
  simp [zeroIns, Ins.ext_iff]
theorem take_drop_cons {l : List Int} {i k : Nat} (hk : k < i) (hi : i ≤ l.length) : (l.take i).drop k = l[k] :: (l.take i).drop (k + 1) := by
  rw [drop_cons (l := l.take i) (i := k) (by simp; omega)]; simp
theorem all_drop {p : Int → Bool} {l : List Int} {i : Nat} (h : i < l.length) : (l.drop i).all p = (p l[i] && (l.drop (i + 1)).all p) := by rw [drop_cons h, List.all_cons]
theorem rhead_ok (vars : Int) (params rets : List Int) (frame : Int) (hp : params.length ≤ 2^40) (hr : rets.length ≤ 2^40) (H : List Blk) : ACalls Tryz.prog 35 [I vars, Int.sl params, Int.sl rets, I frame] H (fun e H' => e = .ret (Bo (headOk vars params rets frame)) ∧ H' = H) := by
  refine acalls_of_vc (hn := fun _ => false) (od := fun _ => none) Tryz.func35 rfl (by kernel_rfl) ?_
  simp -dsimp
  repeat' ((with_reducible first | refine And.intro ?_ ?_ | refine guardVW_introTD (fun _ => ?_) (fun _ => ?_) | refine guardVW_introFD (fun _ => ?_) (fun _ => ?_) | refine condVW_introD (fun _ => ?_) (fun _ => ?_) | refine guardVW_introTE (fun _ => ?_) (fun _ _ _ => ?_) | refine guardVW_introFE (fun _ => ?_) (fun _ _ _ => ?_) | refine condVW_introE (fun _ => ?_) (fun _ _ _ => ?_) | refine guardVW_introTNE (fun _ _ _ => ?_) (fun _ => ?_) | refine guardVW_introFNE (fun _ _ _ => ?_) (fun _ => ?_) | refine condVW_introNE (fun _ _ _ => ?_) (fun _ => ?_) | refine guardVW_introTB (fun _ => ?_) (fun _ => ?_) | refine guardVW_introFB (fun _ => ?_) (fun _ => ?_) | refine condVW_introB (fun _ => ?_) (fun _ => ?_) | refine guardVW_introT (fun _ => ?_) (fun _ => ?_) | refine guardVW_introF (fun _ => ?_) (fun _ => ?_) | refine condVW_intro (fun _ => ?_) (fun _ => ?_)) <;> simp -dsimp [*])
  case refine_2.refine_2.refine_2.refine_2.refine_2.refine_2 h1 h2 h3 h4 h5 h6 =>
    have hbase : headOk vars params rets frame = (paramsOk vars [] params && rets.all (isVr · vars)) := by
      have ht := Int.tmod_eq_emod_of_nonneg (a := frame) (b := 16) (by omega)
      rw [ht] at h5
      have e1 : decide (0 ≤ vars) = true := by simp; omega
      have e2 : decide (vars ≤ 16384) = true := by simp; omega
      have e3 : decide (0 ≤ frame) = true := by simp; omega
      have e4 : decide (frame ≤ 8192) = true := by simp; omega
      have e5 : decide (frame % 16 = 0) = true := by simpa using h5
      have e6 : decide (rets.length ≤ 16384) = true := by simp; omega
      simp only [headOk, e1, e2, e3, e4, e5, e6, Bool.true_and]
    replace hbase := Hid.mk hbase
    refine loop_rule (hn := fun _ => false) (od := fun _ => none) (fun (i : Nat) f H' => H' = H ∧ f 0 = I vars ∧ f 1 = Int.sl params ∧ f 2 = Int.sl rets ∧ f 9 = I i ∧ i ≤ params.length ∧ paramsOk vars (params.take i) (params.drop i) = paramsOk vars [] params) (fun i => params.length - i) (by kernel_rfl) 0 (by simp) ?_
    rintro i f H' ⟨rfl, f0, f1, f2, f9, hi, hok⟩
    simp -dsimp [f0, f1, f2, f9]
    refine condVW_introD (fun hlt => ?_) (fun hlt => ?_)
    · have hd := paramsOk_drop (vars := vars) hlt
      rw [hok] at hd
      replace hd := Hid.mk hd
      replace hok := Hid.mk hok
      simp -dsimp [f0, f1, f2, f9, List.getElem?_eq_getElem, hlt]
      repeat' ((with_reducible first | refine And.intro ?_ ?_ | refine guardVW_introTD (fun _ => ?_) (fun _ => ?_) | refine guardVW_introFD (fun _ => ?_) (fun _ => ?_) | refine condVW_introD (fun _ => ?_) (fun _ => ?_) | refine guardVW_introTE (fun _ => ?_) (fun _ _ _ => ?_) | refine guardVW_introFE (fun _ => ?_) (fun _ _ _ => ?_) | refine condVW_introE (fun _ => ?_) (fun _ _ _ => ?_) | refine guardVW_introTNE (fun _ _ _ => ?_) (fun _ => ?_) | refine guardVW_introFNE (fun _ _ _ => ?_) (fun _ => ?_) | refine condVW_introNE (fun _ _ _ => ?_) (fun _ => ?_) | refine guardVW_introTB (fun _ => ?_) (fun _ => ?_) | refine guardVW_introFB (fun _ => ?_) (fun _ => ?_) | refine condVW_introB (fun _ => ?_) (fun _ => ?_) | refine guardVW_introT (fun _ => ?_) (fun _ => ?_) | refine guardVW_introF (fun _ => ?_) (fun _ => ?_) | refine condVW_intro (fun _ => ?_) (fun _ => ?_)) <;> simp -dsimp [*])
      · rw [hbase.out, hd.out]
        have : isVr params[i] vars = false := by simp [isVr]; omega
        simp [this]
      · rw [hbase.out, hd.out]
        have : isVr params[i] vars = false := by simp [isVr]; omega
        simp [this]
      · rename_i hv1 hv2
        have hv : isVr params[i] vars = true := by simp [isVr]; omega
        rw [hv, Bool.true_and] at hd
        refine loop_rule (hn := fun _ => false) (od := fun _ => none) (fun (k : Nat) f H2 => H2 = H' ∧ f 0 = I vars ∧ f 1 = Int.sl params ∧ f 2 = Int.sl rets ∧ f 9 = I i ∧ f 10 = I k ∧ k ≤ i ∧ (params[i] ∈ (params.take i).drop k ↔ params[i] ∈ params.take i)) (fun k => i - k) (by kernel_rfl) 0 (by simp [f0, f1, f2, f9]) ?_
        rintro k f H2 ⟨rfl, f0, f1, f2, f9, f10, hk, hmem⟩
        simp -dsimp [f0, f1, f2, f9, f10]
        refine condVW_introD (fun hkl => ?_) (fun hkl => ?_)
        · have hkl2 : k < params.length := by omega
          rw [take_drop_cons hkl (by omega), List.mem_cons] at hmem
          replace hmem := Hid.mk hmem
          simp -dsimp [f0, f1, f2, f9, f10, List.getElem?_eq_getElem, hlt, hkl2]
          refine condVW_introE (fun he => ?_) (fun hne _ _ => ?_)
          · simp -dsimp
            rw [hbase.out, hd.out]
            have : params[i] ∈ params.take i := hmem.out.1 (.inl he.symm)
            simp [this]
          · simp -dsimp [f0, f1, f2, f9, f10]
            refine ⟨k + 1, by omega, wrapS (by omega), by omega, ?_⟩
            rw [← hmem.out]
            constructor
            · exact fun h => .inr h
            · exact fun h => h.resolve_left (fun e => hne e.symm)
        · simp -dsimp [f0, f1, f2, f9, f10]
          refine ⟨i + 1, by omega, wrapS (by omega), by omega, ?_⟩
          rw [hd.out]
          have hnil : (params.take i).drop k = [] := List.drop_of_length_le (by simp; omega)
          rw [hnil] at hmem
          have : params[i] ∉ params.take i := fun h => by have := hmem.2 h; simp at this
          simp [this]
    · rw [drop_end hlt] at hok
      have hpok : paramsOk vars [] params = true := by rw [← hok]; rfl
      rw [hpok, Bool.true_and] at hbase
      simp -dsimp [f0, f1, f2, f9]
      refine loop_rule (hn := fun _ => false) (od := fun _ => none) (fun (i : Nat) f H2 => H2 = H' ∧ f 0 = I vars ∧ f 2 = Int.sl rets ∧ f 11 = I i ∧ i ≤ rets.length ∧ (rets.drop i).all (isVr · vars) = rets.all (isVr · vars)) (fun i => rets.length - i) (by kernel_rfl) 0 (by simp [f0, f2]) ?_
      rintro j f H2 ⟨rfl, f0, f2, f11, hj, hall⟩
      simp -dsimp [f0, f2, f11]
      refine condVW_introD (fun hlt2 => ?_) (fun hlt2 => ?_)
      · rw [all_drop hlt2] at hall
        replace hall := Hid.mk hall
        simp -dsimp [f0, f2, f11, List.getElem?_eq_getElem, hlt2]
        repeat' ((with_reducible first | refine And.intro ?_ ?_ | refine guardVW_introTD (fun _ => ?_) (fun _ => ?_) | refine guardVW_introFD (fun _ => ?_) (fun _ => ?_) | refine condVW_introD (fun _ => ?_) (fun _ => ?_) | refine guardVW_introTE (fun _ => ?_) (fun _ _ _ => ?_) | refine guardVW_introFE (fun _ => ?_) (fun _ _ _ => ?_) | refine condVW_introE (fun _ => ?_) (fun _ _ _ => ?_) | refine guardVW_introTNE (fun _ _ _ => ?_) (fun _ => ?_) | refine guardVW_introFNE (fun _ _ _ => ?_) (fun _ => ?_) | refine condVW_introNE (fun _ _ _ => ?_) (fun _ => ?_) | refine guardVW_introTB (fun _ => ?_) (fun _ => ?_) | refine guardVW_introFB (fun _ => ?_) (fun _ => ?_) | refine condVW_introB (fun _ => ?_) (fun _ => ?_) | refine guardVW_introT (fun _ => ?_) (fun _ => ?_) | refine guardVW_introF (fun _ => ?_) (fun _ => ?_) | refine condVW_intro (fun _ => ?_) (fun _ => ?_)) <;> simp -dsimp [*])
        · rw [hbase.out, ← hall.out]
          have : isVr rets[j] vars = false := by simp [isVr]; omega
          simp [this]
        · rw [hbase.out, ← hall.out]
          have : isVr rets[j] vars = false := by simp [isVr]; omega
          simp [this]
        · refine ⟨j + 1, by omega, wrapS (by omega), by omega, ?_⟩
          have : isVr rets[j] vars = true := by simp [isVr]; omega
          have hh := hall.out
          rw [this, Bool.true_and] at hh
          simpa using hh
      · simp -dsimp [f0, f2, f11]
        rw [drop_end hlt2] at hall
        rw [hbase.out, ← hall]; rfl
  case refine_2.refine_2.refine_2.refine_2.refine_1 h5 _ _ =>
    have ht := Int.tmod_eq_emod_of_nonneg (a := frame) (b := 16) (by omega)
    rw [ht] at h5
    have : decide (frame % 16 = 0) = false := by simpa using h5
    simp [headOk, h5]
  all_goals (simp [headOk]; omega)
theorem fmay1_ok (ka kp ta tp : Nat) (vars nodes x : Int) (H : List Blk) (hp : H[kp]? = some (.box tp [.bp ka 0])) (ha : H[ka]? = some (.box ta [I vars, I nodes])) : ACalls Tryz.prog 113 [I x, .bp kp 0] H (fun e H' => e = .ret (Bo (!isVr x vars)) ∧ H' = H) := by
  refine acalls_of_vc (hn := fun _ => false) (od := fun _ => none) Tryz.func113 rfl (by kernel_rfl) ?_
  simp -dsimp [hp]
  repeat' ((with_reducible first | refine And.intro ?_ ?_ | refine guardVW_introTD (fun _ => ?_) (fun _ => ?_) | refine guardVW_introFD (fun _ => ?_) (fun _ => ?_) | refine condVW_introD (fun _ => ?_) (fun _ => ?_) | refine guardVW_introTE (fun _ => ?_) (fun _ _ _ => ?_) | refine guardVW_introFE (fun _ => ?_) (fun _ _ _ => ?_) | refine condVW_introE (fun _ => ?_) (fun _ _ _ => ?_) | refine guardVW_introTNE (fun _ _ _ => ?_) (fun _ => ?_) | refine guardVW_introFNE (fun _ _ _ => ?_) (fun _ => ?_) | refine condVW_introNE (fun _ _ _ => ?_) (fun _ => ?_) | refine guardVW_introTB (fun _ => ?_) (fun _ => ?_) | refine guardVW_introFB (fun _ => ?_) (fun _ => ?_) | refine condVW_introB (fun _ => ?_) (fun _ => ?_) | refine guardVW_introT (fun _ => ?_) (fun _ => ?_) | refine guardVW_introF (fun _ => ?_) (fun _ => ?_) | refine condVW_intro (fun _ => ?_) (fun _ => ?_) | refine acallsW_det (asking_is _ _ _ _ _ _ ha) ?_ | refine callDW_intro (asking_is _ _ _ _ _ _ ha) ?_) <;> simp -dsimp [*])
abbrev nodeI (x : Ins) : List AV := [I 1, I x.kind, I x.op, I x.d, I x.a, I x.b, I x.c, U x.word, Bo x.stack, I 0, .vs 13 [], .vs 13 [], .vs 13 []]
abbrev nodes01 (x : Option Ins) : AV := .vs 13 (match x with | none => [] | some x => [nodeI x])
def node01Ok (vars : Int) (x : Option Ins) : Bool := match x with | none => true | some x => insOk vars x
theorem alist_none (vars : Int) (n0 : Int) (H : List Blk) (k t : Nat) (hk : H[k]? = some (.box t [I vars, I n0])) : ACalls Tryz.prog 114 [.bp k 0, .vs 13 [], I 1] H (fun e H' => e = .ret (Bo true) ∧ H' = H) := by
  refine acalls_of_vc (hn := fun _ => false) (od := fun _ => none) Tryz.func114 rfl (by kernel_rfl) ?_
  simp -dsimp
  refine loop_rule (hn := fun _ => false) (od := fun _ => none) (fun (i : Nat) f H' => H' = H ∧ f 16 = .vs 13 [] ∧ f 17 = I 0 ∧ f 18 = I 0) (fun i => 0) (by kernel_rfl) 0 (by simp) ?_
  rintro i f H' ⟨rfl, h0, h7, h8⟩
  simp -dsimp [h0, h7, h8]
def ANode (vars : Int) (x : Ins) (H : List Blk) (k t : Nat) (e : AE) (H' : List Blk) : Prop := e = .ret (Bo (insOk vars x)) ∧ H' = H.set k (.box t [I vars, I 1])
theorem alist_one (vars : Int) (x : Ins) (H : List Blk) (k t : Nat) (hk : H[k]? = some (.box t [I vars, I 0])) : ACalls Tryz.prog 114 [.bp k 0, .vs 13 [nodeI x], I 1] H (ANode vars x H k t) := by
  refine acalls_tidy (acalls_of_vc (hn := fun _ => false) (od := fun _ => none) Tryz.func114 rfl (by kernel_rfl) ?_)
  have hkl := lt_of_get hk
  have g1 := fun X L => m1_get hkl X L
  have g2 := fun X Y L => m1_set hkl X Y L
  have g3 := fun X L i => m1_getN (H := H) (k := k) X L i
  have g4 := fun X L => m1_getE (H := H) (k := k) X L
  have leaf : ∀ (L : List Blk) (c : Bool), c = insOk vars x → Tidy H (ANode vars x H k t) (AE.ret (AV.v (Value.bool c))) (H.set k (.box t [I vars, I 1]) ++ L) := by
    intro L c hc
    exact tidy_to (by simp) (fun hu => by rw [List.length_set]; exact underH_set hu rfl) rfl ⟨by rw [hc], rfl⟩
  have hH : Hid (H = H.set k (.box t [I vars, I 0]) ++ []) := ⟨by rw [List.append_nil]; exact (set_same hk).symm⟩
  simp -dsimp
  refine loop_rule (hn := fun _ => false) (od := fun _ => none) (fun (i : Nat) f H' => (∃ L, H' = H.set k (.box t [I vars, I i]) ++ L ∧ (i = 1 → insOk vars x = true)) ∧ f 0 = .bp k 0 ∧ f 16 = .vs 13 [nodeI x] ∧ f 17 = I 1 ∧ f 2 = I 1 ∧ f 18 = I i ∧ i ≤ 1) (fun i => 1 - i) (by kernel_rfl) 0 (by refine ⟨⟨[], hH.out, by omega⟩, ?_⟩; simp) ?_
  rintro i f H' ⟨⟨L, rfl, hx⟩, h0, h16, h17, h2, h18, hi⟩
  have hins := fun nn H h => asking_ins k t vars nn x H h
  simp only [Ins.cells] at hins
  simp -dsimp [h0, h16, h17, h2, h18]
  refine condVW_introD (fun hlt => ?_) (fun hlt => ?_)
  · obtain rfl : i = 0 := by omega
    simp -dsimp [h0, h16, h17, h2, h18, zero_ins, g1, g2, g3, g4]
    have hw1 : IntKind.i64.wrap 1 = 1 := by decide
    have hw0 : IntKind.i64.wrap 0 = 0 := by decide
    simp -dsimp only [hw1]
    repeat' ((with_reducible first | refine And.intro ?_ ?_ | refine guardVW_introTD (fun _ => ?_) (fun _ => ?_) | refine guardVW_introFD (fun _ => ?_) (fun _ => ?_) | refine condVW_introD (fun _ => ?_) (fun _ => ?_) | refine guardVW_introTE (fun _ => ?_) (fun _ _ _ => ?_) | refine guardVW_introFE (fun _ => ?_) (fun _ _ _ => ?_) | refine condVW_introE (fun _ => ?_) (fun _ _ _ => ?_) | refine guardVW_introTNE (fun _ _ _ => ?_) (fun _ => ?_) | refine guardVW_introFNE (fun _ _ _ => ?_) (fun _ => ?_) | refine condVW_introNE (fun _ _ _ => ?_) (fun _ => ?_) | refine guardVW_introTB (fun _ => ?_) (fun _ => ?_) | refine guardVW_introFB (fun _ => ?_) (fun _ => ?_) | refine condVW_introB (fun _ => ?_) (fun _ => ?_) | refine guardVW_introT (fun _ => ?_) (fun _ => ?_) | refine guardVW_introF (fun _ => ?_) (fun _ => ?_) | refine condVW_intro (fun _ => ?_) (fun _ => ?_) | refine acallsW_det (hins _ _ (g1 _ _)) ?_ | refine callDW_intro (hins _ _ (g1 _ _)) ?_) <;> simp -dsimp [*, zero_ins, hw1, hw0])
    all_goals first
      | (exfalso; omega)
      | (exfalso; simp only [hw1, hw0] at *; omega)
      | exact leaf _ _ (Eq.symm (by assumption))
      | exact leaf _ _ (by simp [*])
      | exact ⟨1, by omega, ⟨_, rfl⟩, by decide, by omega⟩
      | omega
  · obtain rfl : i = 1 := by omega
    simp -dsimp [h0, h16, h17, h2, h18]
    exact leaf _ _ (hx rfl).symm
theorem fmay_ok (vars : Int) (params rets : List Int) (frame : Int) (x : Option Ins) (hp : params.length ≤ 2^40) (hr : rets.length ≤ 2^40) (H : List Blk) : ACalls Tryz.prog 70 [.agg [I vars, Int.sl params, Int.sl rets, I frame, nodes01 x]] H (fun e H' => e = .ret (Bo (headOk vars params rets frame && node01Ok vars x)) ∧ H' = H) := by
  refine acalls_tidy (acalls_of_vc (hn := fun d => d == 70) (od := fun _ => none) Tryz.func70 rfl (by kernel_rfl) ?_)
  obtain ⟨E, hE⟩ : ∃ E, E = (headOk vars params rets frame && node01Ok vars x) := ⟨_, rfl⟩
  rw [← hE]
  have leaf : ∀ (L : List Blk) (b : Bool), b = E → Tidy H (fun e H' => e = AE.ret (Bo E) ∧ H' = H) (AE.ret (AV.v (Value.bool b))) (H ++ L) := fun L b hb => tidy_same rfl ⟨by rw [hb], rfl⟩
  replace leaf := Hid.mk leaf
  obtain ⟨nd, hnd⟩ : ∃ nd, nd = nodes01 x := ⟨_, rfl⟩
  rw [← hnd]
  replace hE := Hid.mk hE
  replace hnd := Hid.mk hnd
  simp -dsimp
  repeat' ((with_reducible first | refine And.intro ?_ ?_ | refine guardVW_introTD (fun _ => ?_) (fun _ => ?_) | refine guardVW_introFD (fun _ => ?_) (fun _ => ?_) | refine condVW_introD (fun _ => ?_) (fun _ => ?_) | refine guardVW_introTE (fun _ => ?_) (fun _ _ _ => ?_) | refine guardVW_introFE (fun _ => ?_) (fun _ _ _ => ?_) | refine condVW_introE (fun _ => ?_) (fun _ _ _ => ?_) | refine guardVW_introTNE (fun _ _ _ => ?_) (fun _ => ?_) | refine guardVW_introFNE (fun _ _ _ => ?_) (fun _ => ?_) | refine condVW_introNE (fun _ _ _ => ?_) (fun _ => ?_) | refine guardVW_introTB (fun _ => ?_) (fun _ => ?_) | refine guardVW_introFB (fun _ => ?_) (fun _ => ?_) | refine condVW_introB (fun _ => ?_) (fun _ => ?_) | refine guardVW_introT (fun _ => ?_) (fun _ => ?_) | refine guardVW_introF (fun _ => ?_) (fun _ => ?_) | refine condVW_intro (fun _ => ?_) (fun _ => ?_)) <;> simp -dsimp [*])
  case refine_2.refine_2.refine_2.refine_2.refine_2 h1 h2 h3 h4 h5 =>
    have hbase : E = (decide (rets.length ≤ 16384) && paramsOk vars [] params && rets.all (isVr · vars) && node01Ok vars x) := by
      have ht := Int.tmod_eq_emod_of_nonneg (a := frame) (b := 16) (by omega)
      rw [ht] at h5
      have e1 : decide (0 ≤ vars) = true := by simp; omega
      have e2 : decide (vars ≤ 16384) = true := by simp; omega
      have e3 : decide (0 ≤ frame) = true := by simp; omega
      have e4 : decide (frame ≤ 8192) = true := by simp; omega
      have e5 : decide (frame % 16 = 0) = true := by simpa using h5
      rw [hE.out]; simp only [headOk, e1, e2, e3, e4, e5, Bool.true_and]
    replace hbase := Hid.mk hbase
    refine loop_rule (hn := fun d => d == 70) (od := fun _ => none) (fun (i : Nat) g H' => H' = H ++ [.box 116 [I vars, Int.sl params, Int.sl rets, I frame, nd], .box 213 [I vars, I 0], .box 211 [.bp (H.length + 1) 0]] ∧ g 1 = .bp H.length 0 ∧ g 3 = .bp (H.length + 2) 0 ∧ g 35 = Int.sl params ∧ g 36 = I params.length ∧ g 37 = I i ∧ i ≤ params.length ∧ paramsOk vars (params.take i) (params.drop i) = paramsOk vars [] params) (fun i => params.length - i) (by kernel_rfl) 0 (by simp) ?_
    rintro i g H' ⟨rfl, g1, g3, g35, g36, g37, hi, hok⟩
    simp -dsimp [g1, g3, g35, g36, g37]
    have hm : ∀ L, (H ++ Blk.box 116 [I vars, Int.sl params, Int.sl rets, I frame, nd] :: Blk.box 213 [I vars, I 0] :: L)[H.length + 1]? = some (.box 213 [I vars, I 0]) := by intro L; simp
    refine condVW_introD (fun hlt => ?_) (fun hlt => ?_)
    · have hd := paramsOk_drop (vars := vars) hlt
      rw [hok] at hd
      replace hd := Hid.mk hd
      replace hok := Hid.mk hok
      have hct := int_contains (params.take i) params[i]
      simp only [List.map_take] at hct
      have hctl : (params.take i).length ≤ 2^40 := by simp; omega
      simp -dsimp [g1, g3, g35, g36, g37, List.getElem?_eq_getElem, hlt]
      have hany : ((params.take i).any fun x => decide (params[i] = x)) = decide (params[i] ∈ params.take i) := by
        rw [Bool.eq_iff_iff]; simp [List.any_eq_true]
      rw [hany] at hct
      repeat' ((with_reducible first | refine And.intro ?_ ?_ | refine guardVW_introTD (fun _ => ?_) (fun _ => ?_) | refine guardVW_introFD (fun _ => ?_) (fun _ => ?_) | refine condVW_introD (fun _ => ?_) (fun _ => ?_) | refine guardVW_introTE (fun _ => ?_) (fun _ _ _ => ?_) | refine guardVW_introFE (fun _ => ?_) (fun _ _ _ => ?_) | refine condVW_introE (fun _ => ?_) (fun _ _ _ => ?_) | refine guardVW_introTNE (fun _ _ _ => ?_) (fun _ => ?_) | refine guardVW_introFNE (fun _ _ _ => ?_) (fun _ => ?_) | refine condVW_introNE (fun _ _ _ => ?_) (fun _ => ?_) | refine guardVW_introTB (fun _ => ?_) (fun _ => ?_) | refine guardVW_introFB (fun _ => ?_) (fun _ => ?_) | refine condVW_introB (fun _ => ?_) (fun _ => ?_) | refine guardVW_introT (fun _ => ?_) (fun _ => ?_) | refine guardVW_introF (fun _ => ?_) (fun _ => ?_) | refine condVW_intro (fun _ => ?_) (fun _ => ?_) | refine acallsW_det (asking_is _ _ _ _ _ _ (hm _)) ?_ | refine callDW_intro (asking_is _ _ _ _ _ _ (hm _)) ?_ | refine acallsW_det (hct hctl _) ?_ | refine callDW_intro (hct hctl _) ?_) <;> simp -dsimp [*])
      · refine leaf.out _ _ ?_
        rw [hbase.out, hd.out]; simp [*]
      · refine leaf.out _ _ ?_
        rw [hbase.out, hd.out]; simp [*]
      · refine ⟨i + 1, by omega, wrapS (by omega), by omega, ?_⟩
        have := hd.out
        simp [*] at this
        simp [this]
    · rw [drop_end hlt] at hok
      have hpok : paramsOk vars [] params = true := by rw [← hok]; rfl
      rw [hpok, Bool.and_true] at hbase
      have hcf := int_containsF rets (fun v => !isVr v vars) 113 [.bp (H.length + 2) 0] (by kernel_rfl) hr (H ++ [.box 116 [I vars, Int.sl params, Int.sl rets, I frame, nd], .box 213 [I vars, I 0], .box 211 [.bp (H.length + 1) 0]]) (fun x _ => fmay1_ok (H.length + 1) (H.length + 2) 213 211 vars 0 x _ (by simp) (by simp))
      have hal : ∃ V, ∀ W : Blk, ACalls Tryz.prog 114 [.bp (H.length + 1) 0, nd, I 1] (H ++ [.box 116 [I vars, Int.sl params, Int.sl rets, I frame, nd], .box 213 [I vars, I 0], .box 211 [.bp (H.length + 1) 0]]) (fun e H' => e = .ret (Bo (node01Ok vars x)) ∧ H' = H ++ V) := by
        rw [hnd.out]
        cases x with
        | none => exact ⟨_, fun _ => alist_none vars 0 _ (H.length + 1) 213 (by simp)⟩
        | some x =>
          refine ⟨[.box 116 [I vars, Int.sl params, Int.sl rets, I frame, nodes01 (some x)], .box 213 [I vars, I 1], .box 211 [.bp (H.length + 1) 0]], fun _ => (alist_one vars x _ (H.length + 1) 213 (by simp)).mono ?_⟩
          rintro e H' ⟨rfl, rfl⟩
          exact ⟨rfl, by simp⟩
      obtain ⟨V, hal⟩ := hal
      replace hal := hal (.pend)
      simp -dsimp [g1, g3, g35, g36, g37]
      refine acallsW_det hcf ?_
      have hany : (rets.any fun v => !isVr v vars) = !rets.all (isVr · vars) := by rw [List.all_eq_not_any_not]; simp
      replace hany := Hid.mk hany
      simp -dsimp [g1, g3, g35, g36, g37, hany.out]
      repeat' ((with_reducible first | refine And.intro ?_ ?_ | refine guardVW_introTD (fun _ => ?_) (fun _ => ?_) | refine guardVW_introFD (fun _ => ?_) (fun _ => ?_) | refine condVW_introD (fun _ => ?_) (fun _ => ?_) | refine guardVW_introTE (fun _ => ?_) (fun _ _ _ => ?_) | refine guardVW_introFE (fun _ => ?_) (fun _ _ _ => ?_) | refine condVW_introE (fun _ => ?_) (fun _ _ _ => ?_) | refine guardVW_introTNE (fun _ _ _ => ?_) (fun _ => ?_) | refine guardVW_introFNE (fun _ _ _ => ?_) (fun _ => ?_) | refine condVW_introNE (fun _ _ _ => ?_) (fun _ => ?_) | refine guardVW_introTB (fun _ => ?_) (fun _ => ?_) | refine guardVW_introFB (fun _ => ?_) (fun _ => ?_) | refine condVW_introB (fun _ => ?_) (fun _ => ?_) | refine guardVW_introT (fun _ => ?_) (fun _ => ?_) | refine guardVW_introF (fun _ => ?_) (fun _ => ?_) | refine condVW_intro (fun _ => ?_) (fun _ => ?_) | (refine acallsW_of hal (fun e H' hq => ?_); obtain ⟨rfl, rfl⟩ := hq)) <;> simp -dsimp [*])
      all_goals refine leaf.out _ _ ?_
      all_goals clear hcf hal hm
      all_goals rw [hbase.out]
      all_goals first | (simp [*]; done) | (simp [*]; omega)
  case refine_2.refine_2.refine_2.refine_2.refine_1 h5 _ _ =>
    refine leaf.out _ _ ?_
    have ht := Int.tmod_eq_emod_of_nonneg (a := frame) (b := 16) (by omega)
    rw [ht] at h5
    rw [hE.out]; simp [headOk, h5]
  all_goals
    refine leaf.out _ _ ?_
    rw [hE.out]; simp [headOk]
    omega
end Go.Proofs
namespace Go.Proofs
open Go.Mu
def stand (ls : List Int) : List (Value × AV) := ls.map fun n => (.int .i64 n, .agg [Bo true])
theorem sameNow_i64 (a b : Int) : Instr.sameNow (.int .i64) (.int .i64 a) (.int .i64 b) = some (a == b) := by rfl
theorem stand_find (n : Int) (ls : List Int) : mfind (.int .i64) (.int .i64 n) (stand ls) = some (if n ∈ ls then some (.agg [Bo true]) else none) := by
  induction ls with
  | nil => rfl
  | cons a l ih =>
    have : stand (a :: l) = (.int .i64 a, .agg [Bo true]) :: stand l := rfl
    rw [this, mfind, sameNow_i64]
    by_cases h : n = a
    · subst h; simp
    · have e : (n == a) = false := by simp [h]
      rw [e]; simp only [ih, List.mem_cons, h, false_or]
theorem stand_set (n : Int) (ls : List Int) (h : n ∉ ls) : mset (.int .i64) (.int .i64 n) (.agg [Bo true]) (stand ls) = some (stand (ls ++ [n])) := by
  induction ls with
  | nil => rfl
  | cons a l ih =>
    have : stand (a :: l) = (.int .i64 a, .agg [Bo true]) :: stand l := rfl
    simp only [List.mem_cons, not_or] at h
    have e : (n == a) = false := by simp [h.1]
    rw [this, mset, sameNow_i64, e]
    simp only [ih h.2]; rfl
@[simp] theorem avz107 : assertV.avZ (Value.agg #[Value.bool false]) = .agg [Bo false] := (rfl)
theorem jumps_ok (x : Line) (ls : List Int) (k m : Nat) (H : List Blk) (t : TypeId) (hk : H[k]? = some (.box t [.hm m])) (hm : H[m]? = some (.map (stand ls))) :
    ACalls Tryz.prog 76 [.agg x.cells, .bp k 0] H (fun e H' => e = .ret (Bo ((x.kind == 3 || x.kind == 4) && !decide (x.label ∈ ls))) ∧ H' = H) := by
  have hkl : k < H.length := (List.getElem?_eq_some_iff.1 hk).1
  have hml : m < H.length := (List.getElem?_eq_some_iff.1 hm).1
  have hk' : ∀ L, (H ++ L)[k]? = some (.box t [.hm m]) := fun L => by rw [List.getElem?_append_left hkl, hk]
  have hm' : ∀ L, mapEs (H ++ L) (.hm m) = some (stand ls) := fun L => by simp only [mapEs]; rw [List.getElem?_append_left hml, hm]
  have hf := stand_find x.label ls
  refine acalls_tidy (acalls_of_vc (hn := fun _ => false) (od := fun _ => none) Tryz.func76 rfl (by kernel_rfl) ?_)
  simp -dsimp
  by_cases hmem : x.label ∈ ls
  all_goals (simp only [hmem, if_true, if_false] at hf)
  all_goals repeat' ((with_reducible first | refine And.intro ?_ ?_ | refine guardVW_introTD (fun _ => ?_) (fun _ => ?_) | refine guardVW_introFD (fun _ => ?_) (fun _ => ?_) | refine condVW_introD (fun _ => ?_) (fun _ => ?_) | refine guardVW_introTE (fun _ => ?_) (fun _ _ _ => ?_) | refine guardVW_introFE (fun _ => ?_) (fun _ _ _ => ?_) | refine condVW_introE (fun _ => ?_) (fun _ _ _ => ?_) | refine guardVW_introTNE (fun _ _ _ => ?_) (fun _ => ?_) | refine guardVW_introFNE (fun _ _ _ => ?_) (fun _ => ?_) | refine condVW_introNE (fun _ _ _ => ?_) (fun _ => ?_) | refine guardVW_introTB (fun _ => ?_) (fun _ => ?_) | refine guardVW_introFB (fun _ => ?_) (fun _ => ?_) | refine condVW_introB (fun _ => ?_) (fun _ => ?_) | refine guardVW_introT (fun _ => ?_) (fun _ => ?_) | refine guardVW_introF (fun _ => ?_) (fun _ => ?_) | refine condVW_intro (fun _ => ?_) (fun _ => ?_)) <;> simp -dsimp [*])
  all_goals exact tidy_same rfl ⟨by simp [*], rfl⟩
theorem linear_ok (l : Linear) (hp : l.params.length ≤ 2^40) (hr : l.rets.length ≤ 2^40) (hc : l.code.length ≤ 2^40) (H : List Blk) : ACalls Tryz.prog 40 [.agg l.cells] H (fun e H' => e = .ret (Bo l.ok) ∧ H' = H) := by
  refine acalls_tidy (acalls_of_vc (hn := fun _ => false) (od := fun _ => none) Tryz.func40 rfl (by kernel_rfl) ?_)
  have leaf : ∀ (L : List Blk) (c : Bool), c = l.ok → Tidy H (fun e H' => e = AE.ret (Bo l.ok) ∧ H' = H) (AE.ret (AV.v (Value.bool c))) (H ++ L) := fun L c hb => tidy_same rfl ⟨by rw [hb], rfl⟩
  replace leaf := Hid.mk leaf
  have hm1 : ∀ H, ACalls Tryz.prog 70 [.agg [I l.vars, Int.sl l.params, Int.sl l.rets, I l.frame, nilS]] H (fun e H' => e = .ret (Bo (headOk l.vars l.params l.rets l.frame)) ∧ H' = H) := fun H => by
    have := acalls_weak (args := [.agg [I l.vars, Int.sl l.params, Int.sl l.rets, I l.frame, nilS]]) (.cons (.aggL (.cons (.refl _) (.cons (.refl _) (.cons (.refl _) (.cons (.refl _) (.cons (.nil 13) .nil)))))) .nil) (fmay_ok l.vars l.params l.rets l.frame none hp hr H)
    rwa [show node01Ok l.vars none = true from rfl, Bool.and_true] at this
  have hm2 : headOk l.vars l.params l.rets l.frame = true → ∀ (x : Line) H, ACalls Tryz.prog 70 [.agg [I l.vars, nilS, nilS, I 0, .vs 13 [[I 1, I x.ins.kind, I x.ins.op, I x.ins.d, I x.ins.a, I x.ins.b, I x.ins.c, U x.ins.word, Bo x.ins.stack, I 0, nilS, nilS, nilS]]]] H (fun e H' => e = .ret (Bo (insOk l.vars x.ins)) ∧ H' = H) := fun hh x H => by
    have := acalls_weak (args := [.agg [I l.vars, nilS, nilS, I 0, .vs 13 [[I 1, I x.ins.kind, I x.ins.op, I x.ins.d, I x.ins.a, I x.ins.b, I x.ins.c, U x.ins.word, Bo x.ins.stack, I 0, nilS, nilS, nilS]]]])
      (.cons (.aggL (.cons (.refl _) (.cons (.nil 1) (.cons (.nil 1) (.cons (.refl _) (.cons (.vsR (.cons (.append (.refl [I 1, I x.ins.kind, I x.ins.op, I x.ins.d, I x.ins.a, I x.ins.b, I x.ins.c, U x.ins.word, Bo x.ins.stack, I 0]) (.cons (.nil 13) (.cons (.nil 13) (.cons (.nil 13) .nil)))) .nil)) .nil)))))) .nil)
      (fmay_ok l.vars [] [] 0 (some x.ins) (by simp) (by simp) H)
    have h0 : headOk l.vars [] [] 0 = true := by
      unfold headOk at hh ⊢
      simp only [Bool.and_eq_true, decide_eq_true_eq] at hh
      obtain ⟨⟨⟨⟨⟨⟨⟨a1, a2⟩, _⟩, _⟩, _⟩, _⟩, _⟩, _⟩ := hh
      simp [paramsOk, a1, a2]
    rwa [h0, Bool.true_and, show node01Ok l.vars (some x.ins) = insOk l.vars x.ins from rfl] at this
  simp -dsimp
  repeat' ((with_reducible first | refine And.intro ?_ ?_ | refine guardVW_introTD (fun _ => ?_) (fun _ => ?_) | refine guardVW_introFD (fun _ => ?_) (fun _ => ?_) | refine condVW_introD (fun _ => ?_) (fun _ => ?_) | refine guardVW_introTE (fun _ => ?_) (fun _ _ _ => ?_) | refine guardVW_introFE (fun _ => ?_) (fun _ _ _ => ?_) | refine condVW_introE (fun _ => ?_) (fun _ _ _ => ?_) | refine guardVW_introTNE (fun _ _ _ => ?_) (fun _ => ?_) | refine guardVW_introFNE (fun _ _ _ => ?_) (fun _ => ?_) | refine condVW_introNE (fun _ _ _ => ?_) (fun _ => ?_) | refine guardVW_introTB (fun _ => ?_) (fun _ => ?_) | refine guardVW_introFB (fun _ => ?_) (fun _ => ?_) | refine condVW_introB (fun _ => ?_) (fun _ => ?_) | refine guardVW_introT (fun _ => ?_) (fun _ => ?_) | refine guardVW_introF (fun _ => ?_) (fun _ => ?_) | refine condVW_intro (fun _ => ?_) (fun _ => ?_) | refine acallsW_det (hm1 _) ?_ | refine callDW_intro (hm1 _) ?_) <;> simp -dsimp [*])
  · refine leaf.out _ _ ?_
    rename_i h
    simp [Linear.ok]; omega
  · refine leaf.out _ _ ?_
    rename_i h
    simp [Linear.ok, h]
  rename_i h64 hhead
  have hl64 : l.code.length ≤ 65536 := by omega
  obtain ⟨M, hM⟩ : ∃ M, M = H ++ [Blk.box 25 [I l.vars, Int.sl l.params, Int.sl l.rets, I l.frame, Line.sl l.code], .map [], .box 120 [.hm (H.length + 1)]] := ⟨_, rfl⟩
  have hMl : M.length = H.length + 3 := by rw [hM]; simp
  have hM0 : M = M.set (H.length + 1) (.map (stand [])) ++ [] := by
    rw [List.append_nil, hM]; simp [stand]
  rw [← hM]
  refine loop_rule (hn := fun _ => false) (od := fun _ => none) (fun (i : Nat) f H' => (∃ seen L, H' = M.set (H.length + 1) (.map (stand seen)) ++ L ∧ linesSeen l.vars (l.code.drop i) seen = linesSeen l.vars l.code []) ∧ f 1 = .bp H.length 0 ∧ f 3 = .bp (H.length + 2) 0 ∧ f 26 = Line.sl l.code ∧ f 27 = I l.code.length ∧ f 28 = I i ∧ i ≤ l.code.length) (fun i => l.code.length - i) (by kernel_rfl) 0 (by refine ⟨⟨[], [], hM0, rfl⟩, ?_⟩; simp) ?_
  rintro i f H' ⟨⟨seen, L, rfl, hseen⟩, f1, f3, f26, f27, f28, hi⟩
  have back : ∀ X, ∃ X', M.set (H.length + 1) (.map (stand seen)) ++ L ++ X = H ++ X' := by
    intro X; rw [hM, List.set_append_right _ _ (by omega)]; simp only [List.append_assoc]; exact ⟨_, rfl⟩
  obtain ⟨N, hN⟩ : ∃ N, N = M.set (H.length + 1) (.map (stand seen)) ++ L := ⟨_, rfl⟩
  have hNl : H.length + 1 < N.length := by rw [hN]; simp; omega
  have g1 : ∀ X, (N ++ X)[H.length]? = some (Blk.box 25 [I l.vars, Int.sl l.params, Int.sl l.rets, I l.frame, Line.sl l.code]) := by
    intro X; rw [hN, hM]; simp
  have g2 : ∀ X, (N ++ X)[H.length + 2]? = some (.box 120 [.hm (H.length + 1)]) := by
    intro X; rw [hN, hM]; simp
  have g3 : ∀ X, mapEs (N ++ X) (.hm (H.length + 1)) = some (stand seen) := by
    intro X; rw [hN, hM]; simp [mapEs]
  have g1' : ∀ Y X, (N.set (H.length + 1) Y ++ X)[H.length]? = some (Blk.box 25 [I l.vars, Int.sl l.params, Int.sl l.rets, I l.frame, Line.sl l.code]) := by
    intro Y X; rw [hN, hM]; simp
  rw [← hN]
  have gs : ∀ X Y, (N ++ X).set (H.length + 1) Y = N.set (H.length + 1) Y ++ X := by
    intro X Y; rw [List.set_append_left _ _ hNl]
  have e1 := fun Y X => m1_getE (H := N) (k := H.length + 1) Y X
  have e2 := fun Y X j => m1_getN (H := N) (k := H.length + 1) Y X j
  have e3 := fun Y Z X => m1_setE (H := N) (k := H.length + 1) Y Z X
  have e4 := fun Y Z X j => m1_setN (H := N) (k := H.length + 1) Y Z X j
  have hkM : H.length + 1 < M.length := by omega
  have backL : ∀ Y X, ∃ X', N.set (H.length + 1) Y ++ X = H ++ X' := by
    intro Y X; rw [hN, m1_set hkM, hM, List.set_append_right _ _ (by omega)]; simp only [List.append_assoc]; exact ⟨_, rfl⟩
  replace back := Hid.mk back
  replace backL := Hid.mk backL
  replace hM := Hid.mk hM
  replace hM0 := Hid.mk hM0
  replace hN := Hid.mk hN
  replace hseen := Hid.mk hseen
  replace hi := Hid.mk hi
  simp -dsimp [f1, f3, f26, f27, f28]
  refine condVW_introD (fun hlt => ?_) (fun hlt => ?_)
  · have hf := stand_find l.code[i].label seen
    have hset := stand_set l.code[i].label seen
    have fail : Hid (lineSeen l.vars l.code[i] seen = none → ∀ X, Tidy H (fun e H' => e = AE.ret (Bo l.ok) ∧ H' = H) (AE.ret (AV.v (Value.bool false))) (N ++ X)) := ⟨fun h X => by
      obtain ⟨X', hX⟩ := back.out X
      rw [hN.out, hX]
      refine leaf.out _ _ ?_
      have h2 := hseen.out
      rw [drop_cons hlt, linesSeen, h] at h2
      simp only [Option.bind_none] at h2
      simp [Linear.ok, ← h2]⟩
    have failL : Hid (lineSeen l.vars l.code[i] seen = none → ∀ Y X, Tidy H (fun e H' => e = AE.ret (Bo l.ok) ∧ H' = H) (AE.ret (AV.v (Value.bool false))) (N.set (H.length + 1) Y ++ X)) := ⟨fun h Y X => by
      obtain ⟨X', hX⟩ := backL.out Y X
      rw [hX]
      refine leaf.out _ _ ?_
      have h2 := hseen.out
      rw [drop_cons hlt, linesSeen, h] at h2
      simp only [Option.bind_none] at h2
      simp [Linear.ok, ← h2]⟩
    have next : Hid (lineSeen l.vars l.code[i] seen = some seen → ∀ X, ∃ y, l.code.length - y < l.code.length - i ∧ (∃ seen, (∃ x, N ++ X = M.set (H.length + 1) (.map (stand seen)) ++ x) ∧ linesSeen l.vars (l.code.drop y) seen = linesSeen l.vars l.code []) ∧ IntKind.i64.wrap ((i : Int) + 1) = (y : Int) ∧ y ≤ l.code.length) := ⟨fun h X => by
      have h2 := hseen.out
      rw [drop_cons hlt, linesSeen, h] at h2
      simp only [Option.bind_some] at h2
      exact ⟨i + 1, by omega, ⟨seen, ⟨L ++ X, by rw [hN.out, List.append_assoc]⟩, h2⟩, wrapS (by omega), by omega⟩⟩
    have nextL : Hid (lineSeen l.vars l.code[i] seen = some (seen ++ [l.code[i].label]) → ∀ X, ∃ y, l.code.length - y < l.code.length - i ∧ (∃ seen_1, (∃ x, N.set (H.length + 1) (.map (stand (seen ++ [l.code[i].label]))) ++ X = M.set (H.length + 1) (.map (stand seen_1)) ++ x) ∧ linesSeen l.vars (l.code.drop y) seen_1 = linesSeen l.vars l.code []) ∧ IntKind.i64.wrap ((i : Int) + 1) = (y : Int) ∧ y ≤ l.code.length) := ⟨fun h X => by
      have h2 := hseen.out
      rw [drop_cons hlt, linesSeen, h] at h2
      simp only [Option.bind_some] at h2
      exact ⟨i + 1, by omega, ⟨_, ⟨L ++ X, by rw [hN.out, m1_set hkM, List.append_assoc]⟩, h2⟩, wrapS (by omega), by omega⟩⟩
    simp -dsimp [f1, f3, f26, f27, f28, List.getElem?_eq_getElem, hlt]
    by_cases hmem : l.code[i].label ∈ seen
    all_goals (simp only [hmem, if_true, if_false, not_true, not_false_iff, true_implies, false_implies] at hf hset)
    all_goals repeat' ((with_reducible first | refine And.intro ?_ ?_ | refine guardVW_introTD (fun _ => ?_) (fun _ => ?_) | refine guardVW_introFD (fun _ => ?_) (fun _ => ?_) | refine condVW_introD (fun _ => ?_) (fun _ => ?_) | refine guardVW_introTE (fun _ => ?_) (fun _ _ _ => ?_) | refine guardVW_introFE (fun _ => ?_) (fun _ _ _ => ?_) | refine condVW_introE (fun _ => ?_) (fun _ _ _ => ?_) | refine guardVW_introTNE (fun _ _ _ => ?_) (fun _ => ?_) | refine guardVW_introFNE (fun _ _ _ => ?_) (fun _ => ?_) | refine condVW_introNE (fun _ _ _ => ?_) (fun _ => ?_) | refine guardVW_introTB (fun _ => ?_) (fun _ => ?_) | refine guardVW_introFB (fun _ => ?_) (fun _ => ?_) | refine condVW_introB (fun _ => ?_) (fun _ => ?_) | refine guardVW_introT (fun _ => ?_) (fun _ => ?_) | refine guardVW_introF (fun _ => ?_) (fun _ => ?_) | refine condVW_intro (fun _ => ?_) (fun _ => ?_) | refine acallsW_det (hm2 hhead _ _) ?_ | refine callDW_intro (hm2 hhead _ _) ?_) <;> simp -dsimp [*])
    all_goals first | refine fail.out ?_ _ | refine failL.out ?_ _ _ | refine next.out ?_ _ | refine nextL.out ?_ _
    all_goals clear hm1 hm2 g1 g2 g3 g1' gs e1 e2 e3 e4 f1 f3 f26 f27 f28 fail failL next nextL leaf back backL hf hset hN hM hM0
    all_goals try simp only [zero_ins] at *
    all_goals first | (simp_all [lineSeen, lineOk, isVr]; done) | (simp_all [lineSeen, lineOk, isVr]; omega) | (simp [lineSeen, lineOk, isVr, *]; done) | grind [lineSeen, lineOk, isVr]
  · have hcf := line_containsF l.code (jumps seen) 76 [.bp (H.length + 2) 0] (by kernel_rfl) (by omega) N (fun x _ => jumps_ok x seen (H.length + 2) (H.length + 1) N _ (by simpa using g2 []) (by have := g3 []; simp only [mapEs, List.append_nil] at this; revert this; split <;> simp_all))
    have n1 := g1 []
    have n2 := g2 []
    simp only [List.append_nil] at n1 n2
    simp -dsimp [f1, f3, f26, f27, f28, n1]
    repeat' ((with_reducible first | refine And.intro ?_ ?_ | refine guardVW_introTD (fun _ => ?_) (fun _ => ?_) | refine guardVW_introFD (fun _ => ?_) (fun _ => ?_) | refine condVW_introD (fun _ => ?_) (fun _ => ?_) | refine guardVW_introTE (fun _ => ?_) (fun _ _ _ => ?_) | refine guardVW_introFE (fun _ => ?_) (fun _ _ _ => ?_) | refine condVW_introE (fun _ => ?_) (fun _ _ _ => ?_) | refine guardVW_introTNE (fun _ _ _ => ?_) (fun _ => ?_) | refine guardVW_introFNE (fun _ _ _ => ?_) (fun _ => ?_) | refine condVW_introNE (fun _ _ _ => ?_) (fun _ => ?_) | refine guardVW_introTB (fun _ => ?_) (fun _ => ?_) | refine guardVW_introFB (fun _ => ?_) (fun _ => ?_) | refine condVW_introB (fun _ => ?_) (fun _ => ?_) | refine guardVW_introT (fun _ => ?_) (fun _ => ?_) | refine guardVW_introF (fun _ => ?_) (fun _ => ?_) | refine condVW_intro (fun _ => ?_) (fun _ => ?_) | refine acallsW_det (hcf) ?_ | refine callDW_intro (hcf) ?_) <;> simp -dsimp [*])
    obtain ⟨X', hX⟩ := back.out []
    rw [List.append_nil, ← hN.out] at hX
    rw [hX]
    refine leaf.out _ _ ?_
    have h2 := hseen.out
    rw [drop_end hlt, linesSeen] at h2
    simp [Linear.ok, ← h2, hhead, hl64]
end Go.Proofs
