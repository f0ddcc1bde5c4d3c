/- Linear code is run. -/
import Derived.Test.YtganjkhdlehhdaaGreatFwJmptoAMG
import Derived.Test.YtganjkhdlehhdaaGreatAMPtoAMR
import Derived.Test.YtganjkhdlehhdaaGreatAMO
set_option linter.unusedVariables false
set_option linter.unusedSimpArgs false
set_option maxHeartbeats 4000000
set_option maxRecDepth 100000
namespace Go.Proofs
open Go.Mu
end Go.Proofs
namespace Go.Proofs
open Go.Mu
theorem sseen_ok (a : List Se) (ha : a.length ≤ 2^40) (H : List Blk) : ACalls Tryz.prog 15 [Se.sl a, Se.sl a] H (fun e H' => e = .ret (Bo true) ∧ H' = H) := by
  refine acalls_tidy (acalls_of_vc (hn := fun _ => false) (od := fun _ => none) Tryz.func15 rfl (by kernel_rfl) ?_)
  simp -dsimp
  refine loop_rule (hn := fun _ => false) (od := fun _ => none) (fun (i : Nat) f H' => H = H' ∧ f 0 = Se.sl a ∧ f 1 = Se.sl a ∧ f 5 = I i ∧ i ≤ a.length) (fun i => a.length - i) (by kernel_rfl) 0 (by simp) ?_
  rintro i f _ ⟨rfl, h0, h1', h5, hi⟩
  simp -dsimp [h0, h1', h5]
  refine condVW_introD (fun hlt => ?_) (fun hlt => ?_)
  · have e1 := List.getElem?_eq_getElem hlt
    obtain ⟨x, hx⟩ : ∃ x, x = a[i] := ⟨_, rfl⟩
    rw [← hx] at e1
    clear hx
    obtain ⟨xj, xt, xa⟩ := x
    simp -dsimp [h0, h1', h5, e1]
    exact ⟨i + 1, by omega, wrapS (by omega), by omega⟩
  · simp -dsimp
    exact tidy_now rfl ⟨rfl, rfl⟩
def IsBo (e : AE) : Prop := ∃ b, e = .ret (Bo b)
theorem rglong_ok (l : List Rg) (hl : l.length ≤ 2^40) (H : List Blk) : ACalls Tryz.prog 28 [Rg.sl l] H (fun e H' => IsBo e ∧ H' = H) := by
  refine acalls_tidy (acalls_of_vc (hn := fun _ => false) (od := fun _ => none) Tryz.func28 rfl (by kernel_rfl) ?_)
  simp -dsimp
  refine loop_rule (hn := fun _ => false) (od := fun _ => none) (fun (i : Nat) f H' => H = H' ∧ f 0 = Rg.sl l ∧ f 3 = I i ∧ i ≤ l.length) (fun i => l.length - i) (by kernel_rfl) 0 (by simp) ?_
  rintro i f _ ⟨rfl, h0, h3, hi⟩
  simp -dsimp [h0, h3]
  refine guardVW_introTD (fun hlt => ?_) (fun hlt => ?_)
  · have hlt' : i < l.length := by omega
    have e1 := List.getElem?_eq_getElem hlt'
    obtain ⟨x, hx⟩ : ∃ x, x = l[i] := ⟨_, rfl⟩
    rw [← hx] at e1
    clear hx
    obtain ⟨xn, xa, xs, xb⟩ := x
    simp -dsimp [h0, h3, hlt']
    refine condVW_introD (fun hl2 => ?_) (fun hl2 => ?_)
    · simp -dsimp [h0, h3, e1]
      refine condVW_introD (fun h9 => ?_) (fun h9 => ?_)
      · simp -dsimp
        exact tidy_now rfl ⟨⟨_, rfl⟩, rfl⟩
      · simp -dsimp [h0, h3]
        exact ⟨i + 1, by omega, wrapS (by omega), by omega⟩
    · simp -dsimp [h0, h3]
      exact tidy_now rfl ⟨⟨_, rfl⟩, rfl⟩
  · have dn : decide (i < l.length) = false := decide_eq_false (by omega)
    simp -dsimp [h0, h3, dn]
    exact tidy_now rfl ⟨⟨_, rfl⟩, rfl⟩
end Go.Proofs
namespace Go.Proofs
open Go.Mu
structure stOk (s : Mst) : Prop where
  R : s.R.length = 16
  W : ∀ x ∈ s.R, Wd x
  seen : s.seen = []
  b : s.b = zeroB
  at_ : -9223372036854775808 ≤ s.at_ ∧ s.at_ ≤ 9223372036854775807
  steps : -9223372036854775808 ≤ s.steps ∧ s.steps ≤ 9223372036854775807
theorem st_eq_cells (x0 x1 x2 x3 x4 x5 x6 x7 x8 x9 x10 x11 x12 x13 x14 x15 : Int) (c0 c1 c2 c3 c4 : Bool) (a n : Int) : binE Tryz.prog .eql 28 (.agg [U x0, U x1, U x2, U x3, U x4, U x5, U x6, U x7, U x8, U x9, U x10, U x11, U x12, U x13, U x14, U x15, Bo c0, Bo c1, Bo c2, Bo c3, Bo c4, I a, I n]) (.agg [U x0, U x1, U x2, U x3, U x4, U x5, U x6, U x7, U x8, U x9, U x10, U x11, U x12, U x13, U x14, U x15, Bo c0, Bo c1, Bo c2, Bo c3, Bo c4, I a, I n]) = some (.v (.bool ((((x0 == x0) && ((x1 == x1) && ((x2 == x2) && ((x3 == x3) && ((x4 == x4) && ((x5 == x5) && ((x6 == x6) && ((x7 == x7) && ((x8 == x8) && ((x9 == x9) && ((x10 == x10) && ((x11 == x11) && ((x12 == x12) && ((x13 == x13) && ((x14 == x14) && ((x15 == x15) && true)))))))))))))))) && (((c0 == c0) && ((c1 == c1) && ((c2 == c2) && ((c3 == c3) && ((c4 == c4) && true))))) && ((a == a) && ((n == n) && true))))))) := by kernel_rfl
theorem st_eq (s : Mst) (h : s.R.length = 16) : binE Tryz.prog .eql 28 (.agg (stC s)) (.agg (stC s)) = some (Bo true) := by
  obtain ⟨R, f, a, n, se, b⟩ := s
  simp only at h
  match R, h with
  | [x0, x1, x2, x3, x4, x5, x6, x7, x8, x9, x10, x11, x12, x13, x14, x15], _ =>
    refine (st_eq_cells x0 x1 x2 x3 x4 x5 x6 x7 x8 x9 x10 x11 x12 x13 x14 x15 f.c f.z f.s f.o f.p a n).trans ?_
    simp
theorem stC_one (s : Mst) : (stC s).all AV.one = true := List.all_eq_true.2 fun c hc => by
  unfold stC at hc
  simp only [List.mem_append, List.mem_map, List.mem_cons, List.not_mem_nil, or_false] at hc
  rcases hc with ⟨x, _, rfl⟩ | rfl | rfl | rfl | rfl | rfl | rfl | rfl <;> rfl
theorem spl_all {α : Type} (cs ds : List α) (h : cs.length = ds.length) : spl cs 0 ds = ds := by unfold spl; rw [List.take_zero, List.nil_append, Nat.zero_add, List.drop_eq_nil_of_le (by omega), List.append_nil]
section
variable {s : Mst}
theorem stC_len (h : s.R.length = 16) : (stC s).length = 23 := by simp [stC, h]
theorem stC_get (h : s.R.length = 16) {i : Int} (h0 : 0 ≤ i) (h1 : i < 16) : (stC s)[i.toNat]? = some (U (vg s.R i)) := by
  unfold stC
  rw [List.getElem?_append_left (by simp; omega), List.getElem?_map, vg_at h0 (by omega)]
  rfl
theorem stC_reg (h : s.R.length = 16) (i : Int) (h0 : 0 ≤ i) (h1 : i < 16) (w : Int) : spl (stC s) i.toNat [U w] = stC { s with R := s.R.set i.toNat w } := by
  rw [spl_set _ _ _ (by rw [stC_len h]; omega)]
  unfold stC
  rw [List.set_append_left _ _ (by simp; omega)]
  simp [List.map_set]
theorem stC_at (h : s.R.length = 16) (a : Int) : spl (stC s) 21 [I a] = stC { s with at_ := a } := by
  rw [spl_set _ _ _ (by rw [stC_len h]; omega)]
  unfold stC
  rw [List.set_append_right _ _ (by simp [h])]
  simp [h]
theorem stC_steps (h : s.R.length = 16) (a : Int) : spl (stC s) 22 [I a] = stC { s with steps := a } := by
  rw [spl_set _ _ _ (by rw [stC_len h]; omega)]
  unfold stC
  rw [List.set_append_right _ _ (by simp [h])]
  simp [h]
theorem stC_ext {t : Mst} (h1 : s.R = t.R) (h2 : s.f = t.f) (h3 : s.at_ = t.at_) (h4 : s.steps = t.steps) : stC s = stC t := by unfold stC; rw [h1, h2, h3, h4]
end
end Go.Proofs
