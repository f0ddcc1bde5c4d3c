/- A range over an iterator whose round takes memory for its variable. -/
import Derived.Test.YtpibcbilkpoomaaGreatFwQtoFwT
import Derived.Test.YtpibcbilkpoomaaGreatFwZtoFO3
import Derived.Test.YtpibcbilkpoomaaGreatG1toRN
set_option linter.unusedVariables false
set_option linter.unusedSimpArgs false
set_option maxHeartbeats 4000000
set_option maxRecDepth 100000
namespace Go.Mu
open Go.RowKit (Below)
mutual
theorem underF_mono {n m : Nat} (h : n ≤ m) : ∀ (a : AV), a.under n = true → a.under m = true
  | .v _, _ => rfl
  | .vs _ _, _ => rfl
  | .vx _ _, _ => rfl
  | .vp _, _ => rfl
  | .bp k _, hu => by simp only [AV.under, decide_eq_true_eq] at hu ⊢; omega
  | .rp k _ _ _, hu => by simp only [AV.under, decide_eq_true_eq] at hu ⊢; omega
  | .hs k _ _ _, hu => by simp only [AV.under, decide_eq_true_eq] at hu ⊢; omega
  | .hm k, hu => by simp only [AV.under, decide_eq_true_eq] at hu ⊢; omega
  | .hg k, hu => by simp only [AV.under, decide_eq_true_eq] at hu ⊢; omega
  | .hi k, hu => by simp only [AV.under, decide_eq_true_eq] at hu ⊢; omega
  | .yl k, hu => by simp only [AV.under, decide_eq_true_eq] at hu ⊢; omega
  | .fn _ a b, hu => by simp only [AV.under, Bool.and_eq_true] at hu ⊢; exact ⟨underLF_mono h a hu.1, underLF_mono h b hu.2⟩
  | .ifc _ x, hu => by simp only [AV.under] at hu ⊢; exact underF_mono h x hu
  | .agg a, hu => by simp only [AV.under] at hu ⊢; exact underLF_mono h a hu
  | .tup a, hu => by simp only [AV.under] at hu ⊢; exact underLF_mono h a hu
  | .junk, _ => rfl
theorem underLF_mono {n m : Nat} (h : n ≤ m) : ∀ (l : List AV), underL n l = true → underL m l = true
  | [], _ => rfl
  | a :: l, hu => by simp only [underL, Bool.and_eq_true] at hu ⊢; exact ⟨underF_mono h a hu.1, underLF_mono h l hu.2⟩
end
theorem blkF_mono {n m : Nat} (h : n ≤ m) (b : Blk) (hu : b.under n = true) : b.under m = true := by
  cases b with
  | box t cs => exact underLF_mono h cs hu
  | row t z rs =>
    simp only [Blk.under, List.all_eq_true] at hu ⊢
    exact fun r hr => underLF_mono h r (hu r hr)
  | map ms =>
    simp only [Blk.under, List.all_eq_true] at hu ⊢
    exact fun p hp => underF_mono h p.2 (hu p hp)
  | mapg ms =>
    simp only [Blk.under, List.all_eq_true] at hu ⊢
    exact fun p hp => underF_mono h p.2 (hu p hp)
  | lp st pend n f ps assign body =>
    simp only [Blk.under, List.all_eq_true, List.mem_range] at hu ⊢
    exact fun t ht => underF_mono h _ (hu t ht)
  | it km q seen =>
    cases km with
    | none => rfl
    | some k => simp only [Blk.under, decide_eq_true_eq] at hu ⊢; omega
  | _ => rfl
theorem underH_appF {n m : Nat} {A B : List Blk} (h : n ≤ m) (ha : underH n A = true) (hb : ∀ b ∈ B, b.under m = true) : underH m (A ++ B) = true := by
  simp only [underH, List.all_eq_true, List.mem_append] at ha ⊢
  rintro b (hm | hm)
  · exact blkF_mono h b (ha b hm)
  · exact hb b hm
end Go.Mu
namespace Go.Proofs
open Go.Mu
abbrev KL := List (ByteArray × Int)
theorem rsafe_ok (m : Nat) : ∀ (e : Ex), e.count < m → e.count ≤ 2^36 → ∀ H, ACalls Tryz.prog 27 [.agg e.cells] H (fun x H' => x = .ret (Bo e.safe) ∧ H' = H) := by
  induction m with
  | zero => intro e h; omega
  | succ m ih =>
    intro e hm hc H
    have hcc := Ex.count_eq e
    have hl := exs_len e.args
    refine acalls_tidy (acalls_of_vc (hn := fun _ => false) (od := fun _ => none) Tryz.func27 rfl (by kernel_rfl) ?_)
    obtain ⟨E, hE⟩ : ∃ E, E = e.safe := ⟨_, rfl⟩
    rw [← hE]
    rw [Ex.safe_eq] at hE
    obtain ⟨V, hV⟩ : ∃ V, V = H ++ [.box 73 [I e.op, U e.word, St e.name, Ex.sl e.args]] := ⟨_, rfl⟩
    have v0 : V[H.length]? = some (.box 73 [I e.op, U e.word, St e.name, Ex.sl e.args]) := by rw [hV]; simp
    have fin : ∀ b, b = E → Tidy H (fun r M' => r = .ret (Bo E) ∧ M' = H) (.ret (Bo b)) V := fun b hb => by rw [hb, hV]; exact tidy_same rfl ⟨rfl, rfl⟩
    simp -dsimp
    rw [← hV]
    refine loop_rule (hn := fun _ => false) (od := fun _ => none) (fun (i : Nat) q H' => V = H' ∧ q 1 = .bp H.length 0 ∧ q 3 = I i ∧ i ≤ e.args.length ∧ (exsSafe (e.args.drop i) && e.op != 3) = E) (fun i => e.args.length - i) (by kernel_rfl) 0 (by simp [hE]) ?_
    clear hV
    rintro i q _ ⟨rfl, q1, q3, hi, hinv⟩
    simp -dsimp [q1, q3, v0]
    refine condVW_introD (fun hlt => ?_) (fun hlt => ?_)
    · have hlt' : i < e.args.length := by omega
      have hb := exs_get hlt'
      rw [drop_cons hlt', exsSafe] at hinv
      have hx := List.getElem?_eq_getElem hlt'
      obtain ⟨x, hxe⟩ : ∃ x, x = e.args[i] := ⟨_, rfl⟩
      rw [← hxe] at hinv hb hx
      clear hxe
      have hxc : (e.args.map Ex.cells)[i]? = some [I x.op, U x.word, St x.name, Ex.sl x.args] := by rw [List.getElem?_map, hx, Option.map_some, Ex.cells_eq]
      have c := fun H => ih x (by omega) (by omega) H
      simp only [Ex.cells_eq] at c
      simp -dsimp [q1, q3, v0, hxc]
      refine acallsW_det (c _) ?_
      cases hl : x.safe
      · rw [hl, Bool.false_and, Bool.false_and] at hinv
        simp -dsimp
        exact fin _ hinv
      · rw [hl, Bool.true_and] at hinv
        simp -dsimp [q1, q3]
        exact ⟨i + 1, by omega, wrapS (by omega), by omega, hinv⟩
    · rw [drop_end hlt, exsSafe, Bool.true_and] at hinv
      simp -dsimp [q1, v0]
      exact fin _ hinv
end Go.Proofs
namespace Go.Proofs
open Go.Mu
end Go.Proofs
namespace Go.Proofs
open Go.Mu
end Go.Proofs
