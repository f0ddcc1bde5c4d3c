/- Small functions: places in lists, lists that are the same, numbers of variables. -/
import Derived.Test.YteoimifnfkpdeaaD1
set_option linter.unusedVariables false
set_option linter.unusedSimpArgs false
set_option maxHeartbeats 4000000
namespace Go.Proofs
open Go.Mu
def arity (op : Int) : Int := if op = 4 ∨ op = 5 then 1 else if 6 ≤ op ∧ op ≤ 20 then 2 else if op = 21 then 3 else 0
def isV (n vars : Int) : Bool := decide (0 ≤ n) && decide (n < vars)
theorem index_ok (l : List Int) (x : Int) (H : List Blk) (hl : l.length ≤ 2^40) : ACalls Try.prog 94 [Int.sl l, I x] H (fun e H' => e = .ret (I (idxP (x == ·) l 0)) ∧ H' = H) := by
  refine acalls_of_vc (hn := fun _ => false) (od := fun _ => none) Try.func94 rfl (by kernel_rfl) ?_
  simp -dsimp
  refine loop_rule (hn := fun _ => false) (od := fun _ => none) (fun (i : Nat) f H' => H' = H ∧ f 0 = Int.sl l ∧ f 1 = I x ∧ f 7 = I l.length ∧ f 8 = I i ∧ i ≤ l.length ∧ idxP (x == ·) (l.drop i) i = idxP (x == ·) l 0) (fun i => l.length - i) (by kernel_rfl) 0 (by simp) ?_
  rintro i f H' ⟨rfl, h0, h1, h7, h8, hi, ht⟩
  simp -dsimp [h0, h1, h7, h8]
  refine condVW_introD (fun hlt => ?_) (fun hlt => ?_)
  · simp -dsimp [h0, h1, h7, h8, List.getElem?_eq_getElem, hlt]
    rw [drop_cons hlt] at ht
    simp only [idxP] at ht
    repeat' ((with_reducible first | refine And.intro ?_ ?_ | refine guardVW_introTD (fun _ => ?_) (fun _ => ?_) | refine guardVW_introFD (fun _ => ?_) (fun _ => ?_) | refine condVW_introD (fun _ => ?_) (fun _ => ?_) | refine guardVW_introTE (fun _ => ?_) (fun _ _ _ => ?_) | refine guardVW_introFE (fun _ => ?_) (fun _ _ _ => ?_) | refine condVW_introE (fun _ => ?_) (fun _ _ _ => ?_) | refine guardVW_introTNE (fun _ _ _ => ?_) (fun _ => ?_) | refine guardVW_introFNE (fun _ _ _ => ?_) (fun _ => ?_) | refine condVW_introNE (fun _ _ _ => ?_) (fun _ => ?_) | refine guardVW_introTB (fun _ => ?_) (fun _ => ?_) | refine guardVW_introFB (fun _ => ?_) (fun _ => ?_) | refine condVW_introB (fun _ => ?_) (fun _ => ?_) | refine guardVW_introT (fun _ => ?_) (fun _ => ?_) | refine guardVW_introF (fun _ => ?_) (fun _ => ?_) | refine condVW_intro (fun _ => ?_) (fun _ => ?_)) <;> simp -dsimp [*])
    · rename_i h; subst h; rw [← ht]; simp
    · rw [if_neg (by simp; omega)] at ht
      exact ⟨i + 1, by omega, wrapS (by omega), by omega, ht⟩
  · simp -dsimp [h0, h1, h7, h8]
    rw [drop_end hlt] at ht
    exact ht
theorem contains_ok (l : List Int) (x : Int) (H : List Blk) (hl : l.length ≤ 2^40) : ACalls Try.prog 67 [Int.sl l, I x] H (fun e H' => e = .ret (Bo (decide (x ∈ l))) ∧ H' = H) := by
  refine acalls_of_vc (hn := fun _ => false) (od := fun _ => none) Try.func67 rfl (by kernel_rfl) ?_
  simp -dsimp
  refine acallsW_det (index_ok _ _ _ hl) ?_
  simp -dsimp
  have := idxP_any (x == ·) l 0 (by omega)
  rw [Bool.eq_iff_iff] at this
  simpa [List.any_eq] using this
/-- A function value with captured values, that asks something of each element. -/
theorem indexFunc_ok {g : FuncId} {cap : List AV} (p : Int → Bool) (l : List Int) (H : List Blk) (hl : l.length ≤ 2^40) (hg : okFn Try.prog g = true) (hp : ∀ x ∈ l, ACalls Try.prog g (I x :: cap) H (fun e H' => e = .ret (Bo (p x)) ∧ H' = H)) :
    ACalls Try.prog 95 [Int.sl l, .fn (.func g) [] cap] H (fun e H' => e = .ret (I (idxP p l 0)) ∧ H' = H) := by
  refine acalls_of_vc (hn := fun _ => false) (od := fun _ => none) Try.func95 rfl (by kernel_rfl) ?_
  simp -dsimp
  refine loop_rule (hn := fun _ => false) (od := fun _ => none) (fun (i : Nat) f H' => H' = H ∧ f 0 = Int.sl l ∧ f 1 = .fn (.func g) [] cap ∧ f 7 = I l.length ∧ f 8 = I i ∧ i ≤ l.length ∧ idxP p (l.drop i) i = idxP p l 0) (fun i => l.length - i) (by kernel_rfl) 0 (by simp) ?_
  rintro i f H' ⟨rfl, h0, h1, h7, h8, hi, ht⟩
  simp -dsimp [h0, h1, h7, h8]
  refine condVW_introD (fun hlt => ?_) (fun hlt => ?_)
  · simp -dsimp [h0, h1, h7, h8, List.getElem?_eq_getElem, hlt, hg]
    rw [drop_cons hlt] at ht
    simp only [idxP] at ht
    refine acallsW_det (hp _ (List.getElem_mem hlt)) ?_
    simp -dsimp [h0, h1, h7, h8]
    repeat' ((with_reducible first | refine And.intro ?_ ?_ | refine guardVW_introTD (fun _ => ?_) (fun _ => ?_) | refine guardVW_introFD (fun _ => ?_) (fun _ => ?_) | refine condVW_introD (fun _ => ?_) (fun _ => ?_) | refine guardVW_introTE (fun _ => ?_) (fun _ _ _ => ?_) | refine guardVW_introFE (fun _ => ?_) (fun _ _ _ => ?_) | refine condVW_introE (fun _ => ?_) (fun _ _ _ => ?_) | refine guardVW_introTNE (fun _ _ _ => ?_) (fun _ => ?_) | refine guardVW_introFNE (fun _ _ _ => ?_) (fun _ => ?_) | refine condVW_introNE (fun _ _ _ => ?_) (fun _ => ?_) | refine guardVW_introTB (fun _ => ?_) (fun _ => ?_) | refine guardVW_introFB (fun _ => ?_) (fun _ => ?_) | refine condVW_introB (fun _ => ?_) (fun _ => ?_) | refine guardVW_introT (fun _ => ?_) (fun _ => ?_) | refine guardVW_introF (fun _ => ?_) (fun _ => ?_) | refine condVW_intro (fun _ => ?_) (fun _ => ?_)) <;> simp -dsimp [*])
    · rw [← ht]; simp [*]
    · rw [if_neg (by simp [*])] at ht
      exact ⟨i + 1, by omega, wrapS (by omega), by omega, ht⟩
  · simp -dsimp [h0, h1, h7, h8]
    rw [drop_end hlt] at ht
    exact ht
theorem containsFunc_ok {g : FuncId} {cap : List AV} (p : Int → Bool) (l : List Int) (H : List Blk) (hl : l.length ≤ 2^40) (hg : okFn Try.prog g = true) (hp : ∀ x ∈ l, ACalls Try.prog g (I x :: cap) H (fun e H' => e = .ret (Bo (p x)) ∧ H' = H)) :
    ACalls Try.prog 68 [Int.sl l, .fn (.func g) [] cap] H (fun e H' => e = .ret (Bo (l.any p)) ∧ H' = H) := by
  refine acalls_of_vc (hn := fun _ => false) (od := fun _ => none) Try.func68 rfl (by kernel_rfl) ?_
  simp -dsimp
  refine acallsW_det (indexFunc_ok p _ _ hl hg hp) ?_
  simp -dsimp
  rw [idxP_any _ _ _ (by omega)]
theorem indexFuncL_ok {g : FuncId} {cap : List AV} (p : Line → Bool) (l : List Line) (H : List Blk) (hl : l.length ≤ 2^40) (hg : okFn Try.prog g = true) (hp : ∀ x ∈ l, ACalls Try.prog g (.agg x.cells :: cap) H (fun e H' => e = .ret (Bo (p x)) ∧ H' = H)) :
    ACalls Try.prog 72 [Line.sl l, .fn (.func g) [] cap] H (fun e H' => e = .ret (I (idxP p l 0)) ∧ H' = H) := by
  refine acalls_of_vc (hn := fun _ => false) (od := fun _ => none) Try.func72 rfl (by kernel_rfl) ?_
  simp -dsimp
  refine loop_rule (hn := fun _ => false) (od := fun _ => none) (fun (i : Nat) f H' => H' = H ∧ f 0 = Line.sl l ∧ f 1 = .fn (.func g) [] cap ∧ f 7 = I l.length ∧ f 8 = I i ∧ i ≤ l.length ∧ idxP p (l.drop i) i = idxP p l 0) (fun i => l.length - i) (by kernel_rfl) 0 (by simp) ?_
  rintro i f H' ⟨rfl, h0, h1, h7, h8, hi, ht⟩
  simp -dsimp [h0, h1, h7, h8]
  refine condVW_introD (fun hlt => ?_) (fun hlt => ?_)
  · simp -dsimp [h0, h1, h7, h8, List.getElem?_eq_getElem, hlt, hg]
    rw [drop_cons hlt] at ht
    simp only [idxP] at ht
    refine acallsW_det (hp _ (List.getElem_mem hlt)) ?_
    simp -dsimp [h0, h1, h7, h8]
    repeat' ((with_reducible first | refine And.intro ?_ ?_ | refine guardVW_introTD (fun _ => ?_) (fun _ => ?_) | refine guardVW_introFD (fun _ => ?_) (fun _ => ?_) | refine condVW_introD (fun _ => ?_) (fun _ => ?_) | refine guardVW_introTE (fun _ => ?_) (fun _ _ _ => ?_) | refine guardVW_introFE (fun _ => ?_) (fun _ _ _ => ?_) | refine condVW_introE (fun _ => ?_) (fun _ _ _ => ?_) | refine guardVW_introTNE (fun _ _ _ => ?_) (fun _ => ?_) | refine guardVW_introFNE (fun _ _ _ => ?_) (fun _ => ?_) | refine condVW_introNE (fun _ _ _ => ?_) (fun _ => ?_) | refine guardVW_introTB (fun _ => ?_) (fun _ => ?_) | refine guardVW_introFB (fun _ => ?_) (fun _ => ?_) | refine condVW_introB (fun _ => ?_) (fun _ => ?_) | refine guardVW_introT (fun _ => ?_) (fun _ => ?_) | refine guardVW_introF (fun _ => ?_) (fun _ => ?_) | refine condVW_intro (fun _ => ?_) (fun _ => ?_)) <;> simp -dsimp [*])
    · rw [← ht]; simp [*]
    · rw [if_neg (by simp [*])] at ht
      exact ⟨i + 1, by omega, wrapS (by omega), by omega, ht⟩
  · simp -dsimp [h0, h1, h7, h8]
    rw [drop_end hlt] at ht
    exact ht
theorem containsFuncL_ok {g : FuncId} {cap : List AV} (p : Line → Bool) (l : List Line) (H : List Blk) (hl : l.length ≤ 2^40) (hg : okFn Try.prog g = true) (hp : ∀ x ∈ l, ACalls Try.prog g (.agg x.cells :: cap) H (fun e H' => e = .ret (Bo (p x)) ∧ H' = H)) :
    ACalls Try.prog 44 [Line.sl l, .fn (.func g) [] cap] H (fun e H' => e = .ret (Bo (l.any p)) ∧ H' = H) := by
  refine acalls_of_vc (hn := fun _ => false) (od := fun _ => none) Try.func44 rfl (by kernel_rfl) ?_
  simp -dsimp
  refine acallsW_det (indexFuncL_ok p _ _ hl hg hp) ?_
  simp -dsimp
  rw [idxP_any _ _ _ (by omega)]
theorem sameInts_ok (a b : List Int) (H : List Blk) (hl : a.length ≤ 2^40) : ACalls Try.prog 42 [Int.sl a, Int.sl b] H (fun e H' => e = .ret (Bo (decide (a = b))) ∧ H' = H) := by
  refine acalls_of_vc (hn := fun _ => false) (od := fun _ => none) Try.func42 rfl (by kernel_rfl) ?_
  simp -dsimp
  refine condVW_introNE (fun hn _ _ => ?_) (fun hn => ?_)
  · simp -dsimp
    rintro rfl; exact hn rfl
  have hab : a.length = b.length := by omega
  simp -dsimp
  refine loop_rule (hn := fun _ => false) (od := fun _ => none) (fun (i : Nat) f H' => H' = H ∧ f 0 = Int.sl a ∧ f 1 = Int.sl b ∧ f 5 = I i ∧ i ≤ a.length ∧ (a.drop i = b.drop i ↔ a = b)) (fun i => a.length - i) (by kernel_rfl) 0 (by simp) ?_
  rintro i f H' ⟨rfl, h0, h1, h5, hi, ht⟩
  simp -dsimp [h0, h1, h5]
  refine condVW_introD (fun hlt => ?_) (fun hlt => ?_)
  · have hltb : i < b.length := by omega
    simp -dsimp [h0, h1, h5, List.getElem?_eq_getElem, hlt, hltb]
    rw [drop_cons hlt, drop_cons hltb, List.cons.injEq] at ht
    repeat' ((with_reducible first | refine And.intro ?_ ?_ | refine guardVW_introTD (fun _ => ?_) (fun _ => ?_) | refine guardVW_introFD (fun _ => ?_) (fun _ => ?_) | refine condVW_introD (fun _ => ?_) (fun _ => ?_) | refine guardVW_introTE (fun _ => ?_) (fun _ _ _ => ?_) | refine guardVW_introFE (fun _ => ?_) (fun _ _ _ => ?_) | refine condVW_introE (fun _ => ?_) (fun _ _ _ => ?_) | refine guardVW_introTNE (fun _ _ _ => ?_) (fun _ => ?_) | refine guardVW_introFNE (fun _ _ _ => ?_) (fun _ => ?_) | refine condVW_introNE (fun _ _ _ => ?_) (fun _ => ?_) | refine guardVW_introTB (fun _ => ?_) (fun _ => ?_) | refine guardVW_introFB (fun _ => ?_) (fun _ => ?_) | refine condVW_introB (fun _ => ?_) (fun _ => ?_) | refine guardVW_introT (fun _ => ?_) (fun _ => ?_) | refine guardVW_introF (fun _ => ?_) (fun _ => ?_) | refine condVW_intro (fun _ => ?_) (fun _ => ?_)) <;> simp -dsimp [*])
    · rename_i h _ _; simp [← ht, h]
    · rename_i h
      exact ⟨i + 1, by omega, wrapS (by omega), by omega, by rw [← ht]; simp [h]⟩
  · simp -dsimp [h0, h1, h5]
    rw [drop_end hlt, drop_end (by omega)] at ht
    exact ht.1 rfl
theorem is_ok (n vars : Int) (H : List Blk) : ACalls Try.prog 83 [I n, I vars] H (fun e H' => e = .ret (Bo (isV n vars)) ∧ H' = H) := by
  refine acalls_of_vc (hn := fun _ => false) (od := fun _ => none) Try.func83 rfl (by kernel_rfl) ?_
  simp -dsimp
  repeat' ((with_reducible first | refine And.intro ?_ ?_ | refine guardVW_introTD (fun _ => ?_) (fun _ => ?_) | refine guardVW_introFD (fun _ => ?_) (fun _ => ?_) | refine condVW_introD (fun _ => ?_) (fun _ => ?_) | refine guardVW_introTE (fun _ => ?_) (fun _ _ _ => ?_) | refine guardVW_introFE (fun _ => ?_) (fun _ _ _ => ?_) | refine condVW_introE (fun _ => ?_) (fun _ _ _ => ?_) | refine guardVW_introTNE (fun _ _ _ => ?_) (fun _ => ?_) | refine guardVW_introFNE (fun _ _ _ => ?_) (fun _ => ?_) | refine condVW_introNE (fun _ _ _ => ?_) (fun _ => ?_) | refine guardVW_introTB (fun _ => ?_) (fun _ => ?_) | refine guardVW_introFB (fun _ => ?_) (fun _ => ?_) | refine condVW_introB (fun _ => ?_) (fun _ => ?_) | refine guardVW_introT (fun _ => ?_) (fun _ => ?_) | refine guardVW_introF (fun _ => ?_) (fun _ => ?_) | refine condVW_intro (fun _ => ?_) (fun _ => ?_)) <;> simp -dsimp [*])
  all_goals simp [isV, *]
theorem asking_is (k : Nat) (t : Nat) (vars nodes n : Int) (H : List Blk) (hk : H[k]? = some (.box t [I vars, I nodes])) : ACalls Try.prog 66 [.bp k 0, I n] H (fun e H' => e = .ret (Bo (isV n vars)) ∧ H' = H) := by
  refine acalls_of_vc (hn := fun _ => false) (od := fun _ => none) Try.func66 rfl (by kernel_rfl) ?_
  simp -dsimp [hk]
  repeat' ((with_reducible first | refine And.intro ?_ ?_ | refine guardVW_introTD (fun _ => ?_) (fun _ => ?_) | refine guardVW_introFD (fun _ => ?_) (fun _ => ?_) | refine condVW_introD (fun _ => ?_) (fun _ => ?_) | refine guardVW_introTE (fun _ => ?_) (fun _ _ _ => ?_) | refine guardVW_introFE (fun _ => ?_) (fun _ _ _ => ?_) | refine condVW_introE (fun _ => ?_) (fun _ _ _ => ?_) | refine guardVW_introTNE (fun _ _ _ => ?_) (fun _ => ?_) | refine guardVW_introFNE (fun _ _ _ => ?_) (fun _ => ?_) | refine condVW_introNE (fun _ _ _ => ?_) (fun _ => ?_) | refine guardVW_introTB (fun _ => ?_) (fun _ => ?_) | refine guardVW_introFB (fun _ => ?_) (fun _ => ?_) | refine condVW_introB (fun _ => ?_) (fun _ => ?_) | refine guardVW_introT (fun _ => ?_) (fun _ => ?_) | refine guardVW_introF (fun _ => ?_) (fun _ => ?_) | refine condVW_intro (fun _ => ?_) (fun _ => ?_)) <;> simp -dsimp [*])
  all_goals simp [isV, *]
theorem arity_ok (op : Int) (H : List Blk) : ACalls Try.prog 110 [I op] H (fun e H' => e = .ret (I (arity op)) ∧ H' = H) := by
  refine acalls_of_vc (hn := fun _ => false) (od := fun _ => none) Try.func110 rfl (by kernel_rfl) ?_
  simp -dsimp
  repeat' ((with_reducible first | refine And.intro ?_ ?_ | refine guardVW_introTD (fun _ => ?_) (fun _ => ?_) | refine guardVW_introFD (fun _ => ?_) (fun _ => ?_) | refine condVW_introD (fun _ => ?_) (fun _ => ?_) | refine guardVW_introTE (fun _ => ?_) (fun _ _ _ => ?_) | refine guardVW_introFE (fun _ => ?_) (fun _ _ _ => ?_) | refine condVW_introE (fun _ => ?_) (fun _ _ _ => ?_) | refine guardVW_introTNE (fun _ _ _ => ?_) (fun _ => ?_) | refine guardVW_introFNE (fun _ _ _ => ?_) (fun _ => ?_) | refine condVW_introNE (fun _ _ _ => ?_) (fun _ => ?_) | refine guardVW_introTB (fun _ => ?_) (fun _ => ?_) | refine guardVW_introFB (fun _ => ?_) (fun _ => ?_) | refine condVW_introB (fun _ => ?_) (fun _ => ?_) | refine guardVW_introT (fun _ => ?_) (fun _ => ?_) | refine guardVW_introF (fun _ => ?_) (fun _ => ?_) | refine condVW_intro (fun _ => ?_) (fun _ => ?_)) <;> simp -dsimp [*])
  all_goals (simp [arity, *] <;> grind)
theorem args_ok (op : Int) (h1 : 4 ≤ op) (h2 : op ≤ 21) (H : List Blk) : ACalls Try.prog 104 [I op] H (fun e H' => e = .ret (I (arity op)) ∧ H' = H) := by
  refine acalls_of_vc (hn := fun _ => false) (od := fun _ => none) Try.func104 rfl (by kernel_rfl) ?_
  simp -dsimp
  repeat' ((with_reducible first | refine And.intro ?_ ?_ | refine guardVW_introTD (fun _ => ?_) (fun _ => ?_) | refine guardVW_introFD (fun _ => ?_) (fun _ => ?_) | refine condVW_introD (fun _ => ?_) (fun _ => ?_) | refine guardVW_introTE (fun _ => ?_) (fun _ _ _ => ?_) | refine guardVW_introFE (fun _ => ?_) (fun _ _ _ => ?_) | refine condVW_introE (fun _ => ?_) (fun _ _ _ => ?_) | refine guardVW_introTNE (fun _ _ _ => ?_) (fun _ => ?_) | refine guardVW_introFNE (fun _ _ _ => ?_) (fun _ => ?_) | refine condVW_introNE (fun _ _ _ => ?_) (fun _ => ?_) | refine guardVW_introTB (fun _ => ?_) (fun _ => ?_) | refine guardVW_introFB (fun _ => ?_) (fun _ => ?_) | refine condVW_introB (fun _ => ?_) (fun _ => ?_) | refine guardVW_introT (fun _ => ?_) (fun _ => ?_) | refine guardVW_introF (fun _ => ?_) (fun _ => ?_) | refine condVW_intro (fun _ => ?_) (fun _ => ?_)) <;> simp -dsimp [*])
  all_goals (simp [arity, *] <;> grind)
theorem rarity_ok (op : Int) (H : List Blk) : ACalls Try.prog 84 [I op] H (fun e H' => e = .ret (I (arity op)) ∧ H' = H) := by
  refine acalls_of_vc (hn := fun _ => false) (od := fun _ => none) Try.func84 rfl (by kernel_rfl) ?_
  simp -dsimp
  repeat' ((with_reducible first | refine And.intro ?_ ?_ | refine guardVW_introTD (fun _ => ?_) (fun _ => ?_) | refine guardVW_introFD (fun _ => ?_) (fun _ => ?_) | refine condVW_introD (fun _ => ?_) (fun _ => ?_) | refine guardVW_introTE (fun _ => ?_) (fun _ _ _ => ?_) | refine guardVW_introFE (fun _ => ?_) (fun _ _ _ => ?_) | refine condVW_introE (fun _ => ?_) (fun _ _ _ => ?_) | refine guardVW_introTNE (fun _ _ _ => ?_) (fun _ => ?_) | refine guardVW_introFNE (fun _ _ _ => ?_) (fun _ => ?_) | refine condVW_introNE (fun _ _ _ => ?_) (fun _ => ?_) | refine guardVW_introTB (fun _ => ?_) (fun _ => ?_) | refine guardVW_introFB (fun _ => ?_) (fun _ => ?_) | refine condVW_introB (fun _ => ?_) (fun _ => ?_) | refine guardVW_introT (fun _ => ?_) (fun _ => ?_) | refine guardVW_introF (fun _ => ?_) (fun _ => ?_) | refine condVW_intro (fun _ => ?_) (fun _ => ?_) | refine acallsW_det (args_ok _ (by omega) (by omega) _) ?_ | refine callDW_intro (args_ok _ (by omega) (by omega) _) ?_) <;> simp -dsimp [*])
  all_goals (simp [arity, *] <;> grind)
theorem arity_01 (op : Int) : arity op = 0 ∨ arity op = 1 ∨ arity op = 2 ∨ arity op = 3 := by unfold arity; grind
end Go.Proofs
