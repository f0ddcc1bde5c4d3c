/- The document: registers put in, sorted; what is read. -/
import Derived.Test.YtganjkhdlehhdaaGreatKN41toAMJ
import Derived.Test.YtganjkhdlehhdaaGreatFS9toAMQ
import Derived.Test.YtganjkhdlehhdaaGreatAMO
import Derived.Test.YtganjkhdlehhdaaGreatFwJmptoAMG
set_option linter.unusedVariables false
set_option linter.unusedSimpArgs false
set_option maxHeartbeats 4000000
set_option maxRecDepth 100000
namespace Go.Proofs
open Go.Mu
abbrev OwnRg (B M : List Blk) (h : Option Nat) (l : List Int) : Prop := Own 52 1 B M h (l.map fun n => [I n])
abbrev AtRg (M : List Blk) (h : Option Nat) (l : List Int) : Prop := RowAt' 52 1 M h (l.map fun n => [I n])
def RPutR (M : List Blk) (h : Option Nat) (E : List Int) (e : AE) (M' : List Blk) : Prop := ∃ h', e = .ret (hrow h' E.length) ∧ AtRg M' h' E ∧ Stp M M' h h'
def puHr (d : Nat) : Bool := d == 28 || d == 31 || d == 35 || d == 39
def puOr (i : Nat) : Option OPlan := if i = 7 then some [(0, []), (1, []), (2, []), (4, []), (5, []), (7, []), (8, []), (9, []), (3, [5, 9]), (6, [9]), (10, []), (11, [])] else none
theorem rput19_ok (l : List Int) (n : Int) (h : Option Nat) (H : List Blk) (hr : AtRg H h l) (hl : l.length ≤ 2^38) : ACalls Tryz.prog 59 [hrow h l.length, I n] H (RPutR H h (putI n l)) := by
  refine acalls_of_vc (hn := puHr) (od := puOr) Tryz.func59 rfl (by kernel_rfl) ?_
  obtain ⟨E, hE⟩ : ∃ E, E = putI n l := ⟨_, rfl⟩
  rw [← hE]
  cases h with
  | none =>
    have := hr.nil rfl
    have : l = [] := List.map_eq_nil_iff.1 this
    subst this
    simp -dsimp [hrow]
    refine loop_rule (hn := puHr) (od := puOr) (fun (i : Nat) f H' => H = H' ∧ f 0 = nilS ∧ f 1 = I n ∧ f 5 = I 0) (fun i => 0) (by kernel_rfl) 0 (by simp) ?_
    rintro i f _ ⟨rfl, f0, f1, f5⟩
    simp -dsimp [f0, f1, f5, puHr]
    refine appendVW_nil (by simp) (by simp) (fun hy => by cases hy) (fun _ => ?_)
    simp -dsimp
    exact ⟨some H.length, by rw [hE]; rfl, ⟨fun k hk => by cases hk; rw [hE]; simp [putI], fun h => by cases h⟩, by simp, fun i hi _ => List.getElem?_append_left hi, .inr ⟨_, rfl, Nat.le_refl _⟩⟩
  | some k =>
    have q := hr.row k rfl
    have hkl := lt_of_get q
    simp -dsimp [hrow]
    refine loop_rule (hn := puHr) (od := puOr) (fun (i : Nat) f H' => H = H' ∧ f 0 = .hs k 0 l.length l.length ∧ f 1 = I n ∧ f 5 = I i ∧ i ≤ l.length ∧ l.take i ++ putI n (l.drop i) = E) (fun i => l.length - i) (by kernel_rfl) 0 (by simp [hE]) ?_
    rintro i f _ ⟨rfl, f0, f1, f5, hi, hinv⟩
    simp -dsimp [f0, f1, f5, q]
    refine condVW_introD (fun hlt => ?_) (fun hlt => ?_)
    · have hlt' : i < l.length := by omega
      have hx := List.getElem?_eq_getElem hlt'
      have htk : l.take (i + 1) = l.take i ++ [l[i]] := List.take_succ_eq_append_getElem hlt'
      rw [drop_cons hlt'] at hinv
      have hdr : l.drop i = l[i] :: l.drop (i + 1) := drop_cons hlt'
      obtain ⟨x, hxe⟩ : ∃ x, x = l[i] := ⟨_, rfl⟩
      rw [← hxe] at hinv hx htk hdr
      clear hxe
      rw [putI] at hinv
      have hxc : (l.map fun n => [I n])[i]? = some [I x] := by rw [List.getElem?_map, hx]; rfl
      simp -dsimp [f0, f1, f5, q, hxc]
      refine ⟨hlt', ?_⟩
      simp -dsimp [f0, f1, f5, q, hxc]
      refine condVW_introEq (fun he => ?_) (fun he => ?_)
      · rw [if_pos he] at hinv
        have : E = l := by rw [← hinv, ← hdr, List.take_append_drop]
        simp -dsimp [f0]
        exact ⟨some k, by rw [this]; rfl, by rw [this]; exact hr, .refl _ _⟩
      · rw [if_neg he] at hinv
        simp -dsimp [f0, f1, f5, q, hxc]
        refine ⟨hlt', ?_⟩
        simp -dsimp [f0, f1, f5, q, hxc]
        by_cases hlt2 : x < n
        · have hn2 : ¬ n < x := by omega
          rw [if_neg hn2] at hinv
          have hd2 : decide (n < x) = false := decide_eq_false hn2
          simp -dsimp [f0, f1, f5, hd2]
          exact ⟨i + 1, by omega, wrapS (by omega), by omega, by rw [htk, List.append_assoc]; exact hinv⟩
        · have hn2 : n < x := by omega
          rw [if_pos hn2] at hinv
          have hd2 : decide (n < x) = true := decide_eq_true hn2
          simp -dsimp [f0, f1, f5, hd2, puHr, puOr, q]
          have s1 : ∀ M : List Blk, M[k]? = some (.row 52 1 (l.map fun n => [I n])) → srcEs M 1 (.hs k 0 i l.length) = some ((l.take i).map fun n => [I n]) := fun M h => by
            simp only [srcEs, h, List.length_map, and_self, if_true, List.drop_zero, List.map_take]
          have s2 : ∀ M : List Blk, M[k]? = some (.row 52 1 (l.map fun n => [I n])) → srcEs M 1 (.hs k i (l.length - i) l.length) = some ((l.drop i).map fun n => [I n]) := fun M h => by
            simp only [srcEs, h, List.length_map, and_self, if_true, List.map_drop]
            rw [List.take_of_length_le (by simp)]
          refine ⟨hi, ?_⟩
          simp -dsimp [f0, f1, f5, hd2, puHr, puOr, q]
          refine ⟨⟨hi, .inr hlt'⟩, ?_⟩
          have s1' := s1 H q
          simp -dsimp [f0, f1, f5, hd2, puHr, puOr, q, s1']
          refine app_at (n := 0) (h := none) (es := []) (t := 52) (sz := 1) ⟨fun _ h => (by cases h), fun _ => rfl⟩ rfl rfl rfl (by simp; omega) (by simp; omega) ?_
          intro h1 H1 hr1 st1
          rw [← List.map_take] at hr1
          have q1 := st1.old q (by simp)
          simp -dsimp [f0, f1, f5, hd2, puHr, puOr, q1, hi, hlt']
          have el : ((l.take i).map fun n => [I n]).length = i := by simp; omega
          refine app_at (h := h1) (es := [] ++ (l.take i).map fun n => [I n]) (t := 52) (sz := 1) hr1 (by simp; omega) rfl rfl (by simp; omega) (by simp; omega) ?_
          intro h2 H2 hr2 st2
          have q2 : H2[k]? = some (.row 52 1 (l.map fun n => [I n])) := st2.old q1 (fun e => by
            rcases st1.new with e1 | ⟨j, e1, hj⟩
            · rw [e1] at e; cases e
            · rw [e1] at e; cases e; omega)
          simp -dsimp [f0, f1, f5, hd2, puHr, puOr, q2, hi, hlt']
          have s2' := s2 H2 q2
          simp -dsimp [f0, f1, f5, hd2, puHr, puOr, q2, hi, hlt', s2']
          refine app_at (h := h2) (es := ([] ++ (l.take i).map fun n => [I n]) ++ [[I n]]) (t := 52) (sz := 1) hr2 (by simp; omega) rfl rfl (by simp; omega) (by simp; omega) ?_
          intro h3 H3 hr3 st3
          have hEe : ([] ++ (l.take i).map fun n => [I n]) ++ [[I n]] ++ ((l.map fun n => [I n]).drop i) = E.map fun n => [I n] := by
            rw [← hinv, ← List.map_drop, hdr]; simp
          rw [hEe] at hr3
          rw [hEe]
          simp -dsimp
          refine ⟨h3, rfl, hr3, ?_⟩
          have st := (st1.trans st2).trans st3
          refine ⟨st.len, fun j hj hne => st.get j hj (by simp), ?_⟩
          rcases st.new with e | e
          · rw [e] at hr3
            have := hr3.nil rfl
            rw [← hinv] at this
            simp at this
          · exact .inr e
    · have hnil : l.drop i = [] := List.drop_of_length_le (by omega)
      have hall : l.take i = l := List.take_of_length_le (by omega)
      rw [hnil, hall, putI] at hinv
      simp -dsimp [f0, f1, puHr]
      refine appendVW_hs (es := l.map fun n => [I n]) q (by simp) (by simp) (by simp; omega) (by simp; omega) ?_
      simp -dsimp
      exact ⟨some k, by rw [← hinv]; simp [hrow], ⟨fun j hj => by cases hj; rw [← hinv]; simp [hkl], fun h => by cases h⟩, ⟨by simp, fun j hj hne => by rw [List.getElem?_set_ne (fun e => hne (by rw [e]))], .inl rfl⟩⟩
theorem riseL_add (b : Bool) (r : Int) (l : List Int) : riseL (addIf b r l) = if b = true then putI r (riseL l) else riseL l := by
  unfold addIf
  cases b
  · rfl
  · show riseL (l ++ [r]) = putI r (riseL l)
    unfold riseL
    rw [List.foldl_append]
    rfl
theorem addIf_len (b : Bool) (r : Int) (l : List Int) : (addIf b r l).length ≤ l.length + 1 := by unfold addIf; split <;> simp
def rdst (i : Amd) : Bool := ((((nmOf i.op).dst && i.op != 1) && i.op != 2) && i.op != 3) && i.op != 15
def rreadsP (i : Amd) : List Int := addIf i.hasIndex i.index (addIf i.hasBase i.base (addIf (i.op == 7) 1 (addIf (rdst i) i.dst (addIf (nmOf i.op).src i.src []))))
def rreadsE (i : Amd) : List Int := if rMay1 i = true then riseL (rreadsP i) else []
theorem reE_frzR (l : List Int) : (l.map fun n => [I n]).flatten.all AV.frzB = true := by
  induction l with
  | nil => rfl
  | cons x l ih =>
    show ([I x] ++ (l.map fun n => [I n]).flatten).all AV.frzB = true
    rw [List.all_append, ih]; rfl
theorem rreads_ok (i : Amd) (H : List Blk) : ACalls Tryz.prog 22 [.agg i.cells] H (fun e H' => e = .ret (.vs 1 (reE (rreadsE i))) ∧ H' = H) := by
  refine acalls_under fun hu _ => acalls_weakE (acalls_tidy (acalls_of_awp Tryz.func22 rfl (by kernel_rfl) ?_))
  have cm := fun H => rmayone_ok i H
  have co := fun H => rof_ok i.op H
  obtain ⟨E, hE⟩ : ∃ E, E = rreadsE i := ⟨_, rfl⟩
  rw [← hE]
  unfold rreadsE at hE
  obtain ⟨mo, hmo⟩ : ∃ mo, mo = rMay1 i := ⟨_, rfl⟩
  rw [← hmo] at cm hE
  obtain ⟨L1, hL1⟩ : ∃ L, L = addIf (nmOf i.op).src i.src [] := ⟨_, rfl⟩
  obtain ⟨L2, hL2⟩ : ∃ L, L = addIf (rdst i) i.dst L1 := ⟨_, rfl⟩
  obtain ⟨L3, hL3⟩ : ∃ L, L = addIf (i.op == 7) 1 L2 := ⟨_, rfl⟩
  obtain ⟨L4, hL4⟩ : ∃ L, L = addIf i.hasBase i.base L3 := ⟨_, rfl⟩
  obtain ⟨L5, hL5⟩ : ∃ L, L = addIf i.hasIndex i.index L4 := ⟨_, rfl⟩
  have hE' : E = if mo = true then riseL L5 else [] := by rw [hE, hL5, hL4, hL3, hL2, hL1]; rfl
  clear hE
  have l1 : L1.length ≤ 1 := by rw [hL1]; exact addIf_len _ _ _
  have l2 : L2.length ≤ 2 := by rw [hL2]; exact Nat.le_trans (addIf_len _ _ _) (by omega)
  have l3 : L3.length ≤ 3 := by rw [hL3]; exact Nat.le_trans (addIf_len _ _ _) (by omega)
  have l4 : L4.length ≤ 4 := by rw [hL4]; exact Nat.le_trans (addIf_len _ _ _) (by omega)
  have rl : ∀ l : List Int, l.length ≤ 4 → (riseL l).length ≤ 2^38 := fun l h => Nat.le_trans (riseL_len l) (by omega)
  obtain ⟨ns, hns⟩ : ∃ ns, ns = nmOf i.op := ⟨_, rfl⟩
  rw [← hns] at hL1
  have hrd : rdst i = ((((ns.dst && i.op != 1) && i.op != 2) && i.op != 3) && i.op != 15) := by rw [hns]; rfl
  obtain ⟨rd, hrd'⟩ : ∃ rd, rd = rdst i := ⟨_, rfl⟩
  rw [← hrd'] at hrd hL2
  obtain ⟨o7, ho7⟩ : ∃ o7, o7 = (i.op == 7) := ⟨_, rfl⟩
  rw [← ho7] at hL3
  have b1 : ∀ L, (H ++ (.box 56 i.cells) :: L)[H.length]? = some (.box 56 i.cells) := fun L => by simp
  simp only [Lm.Amd.cells] at b1 cm
  refine awp_cut (fun _ => false) (fun _ => none) (fun f M => M = H ++ [(.box 56 i.cells)] ∧ f 1 = .bp H.length 0) (by kernel_rfl) ?_ ?_
  · simp -dsimp
  rintro f M ⟨hM, f1⟩
  rw [hM]
  clear hM M
  refine awp_cut (fun _ => false) (fun _ => none) (fun f M => M = H ++ [(.box 56 i.cells)] ∧ f 1 = .bp H.length 0 ∧ f 3 = nilS) (by kernel_rfl) ?_ ?_
  · simp -dsimp [f1]
  clear f1 f
  rintro f M ⟨hM, f1, f3⟩
  rw [hM]
  clear hM M
  refine awp_cut (fun _ => false) (fun _ => none) (fun f M => M = H ++ [(.box 56 i.cells)] ∧ mo = true ∧ f 1 = .bp H.length 0 ∧ f 3 = nilS) (by kernel_rfl) ?_ ?_
  · cases mo
    · simp -dsimp [f1, b1]
      refine acallsW_det (cm _) ?_
      simp -dsimp
      rw [hE']
      exact tidy_same rfl ⟨_, .nil 1, rfl, rfl⟩
    · simp -dsimp [f1, b1]
      refine acallsW_det (cm _) ?_
      simp -dsimp [f1, f3]
  clear f1 f3 f
  rintro f M ⟨hM, hm, f1, f3⟩
  rw [hM]
  clear hM M
  rw [if_pos hm] at hE'
  obtain ⟨B, hB⟩ : ∃ B, B = H ++ [(.box 56 i.cells), (.box 110 ns.cells)] := ⟨_, rfl⟩
  have g1 : B[H.length]? = some (.box 56 i.cells) := by rw [hB]; simp
  have g4 : B[H.length + 1]? = some (.box 110 ns.cells) := by rw [hB]; simp
  simp only [Lm.Amd.cells, Nms.cells] at g1 g4
  refine awp_cut (fun _ => false) (fun _ => none) (fun f M => M = B ∧ f 1 = .bp H.length 0 ∧ f 3 = nilS ∧ f 4 = .bp (H.length + 1) 0) (by kernel_rfl) ?_ ?_
  · simp -dsimp [f1, b1]
    refine acallsW_det (co _) ?_
    rw [← hns]
    simp -dsimp [f1, f3]
    exact hB.symm
  clear f1 f3 f
  rintro f M ⟨hM, f1, f3, f4⟩
  have ow : OwnRg B M none (riseL []) := by rw [hM]; exact .nil1 _ _ _
  replace f3 : f 3 = hrow none (riseL []).length := f3
  have j : ∃ h, f 3 = hrow h (riseL []).length ∧ OwnRg B M h (riseL []) := ⟨none, f3, ow⟩
  clear f3 ow
  obtain ⟨h, f3, ow⟩ := j
  clear hM
  have nx : riseL L1 = if ns.src = true then putI i.src (riseL []) else riseL [] := by rw [hL1]; exact riseL_add _ _ _
  refine awp_cut (fun _ => false) (fun _ => none) (fun f M => f 1 = .bp H.length 0 ∧ f 4 = .bp (H.length + 1) 0 ∧ ∃ h, f 3 = hrow h (riseL L1).length ∧ OwnRg B M h (riseL L1)) (by kernel_rfl) ?_ ?_
  · have m1 := ow.old g1
    have m4 := ow.old g4
    have cp := rput19_ok (riseL []) i.src h M ow.at' (rl _ (by simp))
    generalize hbb : ns.src = bb at nx
    rw [hbb] at m4
    cases bb
    · rw [if_neg (by decide)] at nx
      rw [nx]
      simp -dsimp [f1, f3, f4, m1, m4]
      exact ⟨h, rfl, ow⟩
    · rw [if_pos rfl] at nx
      rw [nx]
      simp -dsimp [f1, f3, f4, m1, m4]
      refine acallsW_of cp ?_
      rintro e M' ⟨h', rfl, r', s'⟩
      simp -dsimp [f1, f3, f4]
      exact ⟨h', rfl, ow.step r' s'⟩
  clear f1 f3 f4 f ow nx h M
  rintro f M ⟨f1, f4, h, f3, ow⟩
  have nx : riseL L2 = if rd = true then putI i.dst (riseL L1) else riseL L1 := by rw [hL2]; exact riseL_add _ _ _
  refine awp_cut (fun _ => false) (fun _ => none) (fun f M => f 1 = .bp H.length 0 ∧ f 4 = .bp (H.length + 1) 0 ∧ ∃ h, f 3 = hrow h (riseL L2).length ∧ OwnRg B M h (riseL L2)) (by kernel_rfl) ?_ ?_
  · have m1 := ow.old g1
    have m4 := ow.old g4
    have cp := rput19_ok (riseL L1) i.dst h M ow.at' (rl _ (by omega))
    generalize hbb : rd = bb at nx
    rw [← hbb, hrd] at nx
    cases q0 : ns.dst <;> cases q1 : (i.op != 1) <;> cases q2 : (i.op != 2) <;> cases q3 : (i.op != 3) <;> cases q4 : (i.op != 15)
    all_goals
      simp only [q0, q1, q2, q3, q4, Bool.and_true, Bool.and_false, Bool.true_and, Bool.false_and, if_true, Bool.false_eq_true, if_false] at nx
      rw [nx]
      rw [q0] at m4
      simp -dsimp [f1, f3, f4, m1, m4, q1, q2, q3, q4]
      first
        | (refine acallsW_of cp ?_
           rintro e M' ⟨h', rfl, r', s'⟩
           simp -dsimp [f1, f3, f4]
           exact ⟨h', rfl, ow.step r' s'⟩)
        | exact ⟨h, rfl, ow⟩
  clear f1 f3 f4 f ow nx h M
  rintro f M ⟨f1, f4, h, f3, ow⟩
  have nx : riseL L3 = if o7 = true then putI 1 (riseL L2) else riseL L2 := by rw [hL3]; exact riseL_add _ _ _
  refine awp_cut (fun _ => false) (fun _ => none) (fun f M => f 1 = .bp H.length 0 ∧ f 4 = .bp (H.length + 1) 0 ∧ ∃ h, f 3 = hrow h (riseL L3).length ∧ OwnRg B M h (riseL L3)) (by kernel_rfl) ?_ ?_
  · have m1 := ow.old g1
    have m4 := ow.old g4
    have cp := rput19_ok (riseL L2) 1 h M ow.at' (rl _ (by omega))
    generalize hbb : o7 = bb at nx
    have q7 : (i.op == 7) = bb := by rw [← hbb, ho7]
    cases bb
    · rw [if_neg (by decide)] at nx
      rw [nx]
      simp -dsimp [f1, f3, f4, m1, m4, q7]
      exact ⟨h, rfl, ow⟩
    · rw [if_pos rfl] at nx
      rw [nx]
      simp -dsimp [f1, f3, f4, m1, m4, q7]
      refine acallsW_of cp ?_
      rintro e M' ⟨h', rfl, r', s'⟩
      simp -dsimp [f1, f3, f4]
      exact ⟨h', rfl, ow.step r' s'⟩
  clear f1 f3 f4 f ow nx h M
  rintro f M ⟨f1, f4, h, f3, ow⟩
  have nx : riseL L4 = if i.hasBase = true then putI i.base (riseL L3) else riseL L3 := by rw [hL4]; exact riseL_add _ _ _
  refine awp_cut (fun _ => false) (fun _ => none) (fun f M => f 1 = .bp H.length 0 ∧ f 4 = .bp (H.length + 1) 0 ∧ ∃ h, f 3 = hrow h (riseL L4).length ∧ OwnRg B M h (riseL L4)) (by kernel_rfl) ?_ ?_
  · have m1 := ow.old g1
    have m4 := ow.old g4
    have cp := rput19_ok (riseL L3) i.base h M ow.at' (rl _ (by omega))
    generalize hbb : i.hasBase = bb at nx
    rw [hbb] at m1
    cases bb
    · rw [if_neg (by decide)] at nx
      rw [nx]
      simp -dsimp [f1, f3, f4, m1, m4]
      exact ⟨h, rfl, ow⟩
    · rw [if_pos rfl] at nx
      rw [nx]
      simp -dsimp [f1, f3, f4, m1, m4]
      refine acallsW_of cp ?_
      rintro e M' ⟨h', rfl, r', s'⟩
      simp -dsimp [f1, f3, f4]
      exact ⟨h', rfl, ow.step r' s'⟩
  clear f1 f3 f4 f ow nx h M
  rintro f M ⟨f1, f4, h, f3, ow⟩
  have nx : riseL L5 = if i.hasIndex = true then putI i.index (riseL L4) else riseL L4 := by rw [hL5]; exact riseL_add _ _ _
  refine awp_cut (fun _ => false) (fun _ => none) (fun f M => f 1 = .bp H.length 0 ∧ f 4 = .bp (H.length + 1) 0 ∧ ∃ h, f 3 = hrow h (riseL L5).length ∧ OwnRg B M h (riseL L5)) (by kernel_rfl) ?_ ?_
  · have m1 := ow.old g1
    have m4 := ow.old g4
    have cp := rput19_ok (riseL L4) i.index h M ow.at' (rl _ (by omega))
    generalize hbb : i.hasIndex = bb at nx
    rw [hbb] at m1
    cases bb
    · rw [if_neg (by decide)] at nx
      rw [nx]
      simp -dsimp [f1, f3, f4, m1, m4]
      exact ⟨h, rfl, ow⟩
    · rw [if_pos rfl] at nx
      rw [nx]
      simp -dsimp [f1, f3, f4, m1, m4]
      refine acallsW_of cp ?_
      rintro e M' ⟨h', rfl, r', s'⟩
      simp -dsimp [f1, f3, f4]
      exact ⟨h', rfl, ow.step r' s'⟩
  clear f1 f3 f4 f ow nx h M
  rintro f M ⟨f1, f4, h, f3, ow⟩
  refine awp_all (hn := fun _ => false) (od := fun _ => none) (by kernel_rfl) ?_
  simp -dsimp [f3]
  have ow' := ow
  rw [hB] at ow'
  exact tidy_rowA hu ow'.less (reE_frzR _) (by simp) ⟨by rw [hE'], rfl⟩
theorem reads_same (i : Amd) (hw : Wd i.imm) (hd : -9223372036854775808 ≤ i.disp ∧ i.disp ≤ 9223372036854775807) : rreadsE i = readsE i := by
  unfold rreadsE readsE
  rw [rMay1_eq i hw hd]
  cases hm : Lm.mayOne i
  · rfl
  · rw [if_pos rfl, if_pos rfl]
    have hop := (mayOne_r hm).op
    have e1 : (nmOf i.op).src = Lm.bitP (partOf i) 2 ∧ rdst i = (Lm.bitP (partOf i) 1 && !freshO i.op) := by
      unfold rdst partOf
      have c : i.op = 1 ∨ i.op = 2 ∨ i.op = 3 ∨ i.op = 4 ∨ i.op = 5 ∨ i.op = 6 ∨ i.op = 7 ∨ i.op = 8 ∨ i.op = 9 ∨ i.op = 10 ∨ i.op = 11 ∨ i.op = 12 ∨ i.op = 13 ∨ i.op = 14 ∨ i.op = 15 ∨ i.op = 16 ∨ i.op = 17 ∨ i.op = 18 ∨ i.op = 19 ∨ i.op = 20 := by omega
      rcases c with c | c | c | c | c | c | c | c | c | c | c | c | c | c | c | c | c | c | c | c <;> rw [c] <;> decide
    unfold rreadsP readsP
    rw [e1.1, e1.2]
end Go.Proofs
namespace Go.Proofs
open Go.Mu
def rwritesE (i : Amd) : Int × Bool := if rMay1 i && (nmOf i.op).dst && !asksO i.op then (i.dst, true) else (0, false)
theorem rwrites_ok (i : Amd) (H : List Blk) : ACalls Tryz.prog 17 [.agg i.cells] H (fun e H' => e = .ret (.tup [I (rwritesE i).1, Bo (rwritesE i).2]) ∧ H' = H) := by
  refine acalls_tidy (acalls_of_awp Tryz.func17 rfl (by kernel_rfl) ?_)
  have cm := fun H => rmayone_ok i H
  have co := fun H => rof_ok i.op H
  obtain ⟨E, hE⟩ : ∃ E, E = rwritesE i := ⟨_, rfl⟩
  rw [← hE]
  unfold rwritesE asksO at hE
  obtain ⟨mo, hmo⟩ : ∃ mo, mo = rMay1 i := ⟨_, rfl⟩
  rw [← hmo] at cm hE
  obtain ⟨ns, hns⟩ : ∃ ns, ns = nmOf i.op := ⟨_, rfl⟩
  rw [← hns] at co hE
  obtain ⟨q0, q1, q2, q3, q4, q5, q6, q7⟩ := ns
  simp only at hE
  have b1 : ∀ L, (H ++ (.box 56 i.cells) :: L)[H.length]? = some (.box 56 i.cells) := fun L => by simp
  simp only [Lm.Amd.cells, Nms.cells] at b1 cm co
  refine awp_all (hn := fun _ => false) (od := fun _ => none) (by kernel_rfl) ?_
  simp -dsimp [b1]
  refine acallsW_det (cm _) ?_
  cases mo
  · simp -dsimp [b1]
    rw [hE]
    exact tidy_same rfl ⟨rfl, rfl⟩
  simp -dsimp [b1]
  refine acallsW_det (co _) ?_
  cases q3
  · simp -dsimp [b1]
    rw [hE]
    exact tidy_same rfl ⟨rfl, rfl⟩
  cases e1 : (i.op == 11) <;> cases e2 : (i.op == 12) <;> cases e3 : (i.op == 13)
  all_goals
    rw [e1, e2, e3] at hE
    simp -dsimp [b1, e1, e2, e3]
    rw [hE]
    exact tidy_same rfl ⟨rfl, rfl⟩
theorem writes_same (i : Amd) (hw : Wd i.imm) (hd : -9223372036854775808 ≤ i.disp ∧ i.disp ≤ 9223372036854775807) : rwritesE i = writesE i := by
  unfold rwritesE writesE
  rw [rMay1_eq i hw hd]
  cases hm : Lm.mayOne i
  · rfl
  · have hop := (mayOne_r hm).op
    have e1 : (nmOf i.op).dst = Lm.bitP (partOf i) 1 := by
      unfold partOf
      have c : i.op = 1 ∨ i.op = 2 ∨ i.op = 3 ∨ i.op = 4 ∨ i.op = 5 ∨ i.op = 6 ∨ i.op = 7 ∨ i.op = 8 ∨ i.op = 9 ∨ i.op = 10 ∨ i.op = 11 ∨ i.op = 12 ∨ i.op = 13 ∨ i.op = 14 ∨ i.op = 15 ∨ i.op = 16 ∨ i.op = 17 ∨ i.op = 18 ∨ i.op = 19 ∨ i.op = 20 := by omega
      rcases c with c | c | c | c | c | c | c | c | c | c | c | c | c | c | c | c | c | c | c | c <;> rw [c] <;> decide
    rw [e1]
    cases Lm.bitP (partOf i) 1 <;> cases asksO i.op <;> rfl
def rgV (R : List Int) (n : Int) : Int := if n < 0 ∨ 15 < n then 0 else vg R n
theorem rreg_ok (R : List Int) (hR : R.length = 16) (n : Int) (H : List Blk) : ACalls Tryz.prog 61 [.agg (Regs R), I n] H (fun e H' => e = .ret (U (rgV R n)) ∧ H' = H) := by
  refine acalls_tidy (acalls_of_vc (hn := fun _ => false) (od := fun _ => none) Tryz.func61 rfl (by kernel_rfl) ?_)
  obtain ⟨E, hE⟩ : ∃ E, E = rgV R n := ⟨_, rfl⟩
  rw [← hE]
  unfold rgV at hE
  obtain ⟨rc, hrc⟩ : ∃ rc, rc = Regs R := ⟨_, rfl⟩
  have hrl : rc.length = 16 := by rw [hrc]; simp [hR]
  rw [← hrc]
  by_cases h0 : n < 0
  · have d0 : decide (n < 0) = true := decide_eq_true h0
    rw [if_pos (.inl h0)] at hE
    simp -dsimp [hrl, d0]
    rw [hE]
    exact tidy_same rfl ⟨rfl, rfl⟩
  · have d0 : decide (n < 0) = false := decide_eq_false h0
    by_cases h1 : 15 < n
    · have d1 : decide (15 < n) = true := decide_eq_true h1
      rw [if_pos (.inr h1)] at hE
      simp -dsimp [hrl, d0, d1]
      rw [hE]
      exact tidy_same rfl ⟨rfl, rfl⟩
    · have d1 : decide (15 < n) = false := decide_eq_false h1
      rw [if_neg (by omega)] at hE
      have rr : 0 ≤ n ∧ n < 16 := by omega
      have g : rc[n.toNat]? = some (U E) := by rw [hrc, List.getElem?_map, vg_at rr.1 (by omega), hE]; rfl
      have gg : ∀ h : n.toNat < rc.length, rc[n.toNat]'h = U E := fun h => by have := List.getElem?_eq_getElem h; rw [g] at this; exact (Option.some.inj this).symm
      simp -dsimp [hrl, d0, d1, rr, g, gg]
      exact tidy_same rfl ⟨rfl, rfl⟩
def addrR (i : Amd) (R : List Int) : Int :=
  let x := wU i.disp
  let y := if i.hasBase = true then wU (x + rgV R i.base) else x
  if i.hasIndex = true then wU (y + wU (8 * rgV R i.index)) else y
theorem raddress_ok (i : Amd) (R : List Int) (hR : R.length = 16) (H : List Blk) : ACalls Tryz.prog 24 [.agg [I i.base, I i.index, Bo i.hasBase, Bo i.hasIndex, I i.disp], .agg (Regs R)] H (fun e H' => e = .ret (U (addrR i R)) ∧ H' = H) := by
  refine acalls_tidy (acalls_of_vc (hn := fun _ => false) (od := fun _ => none) Tryz.func24 rfl (by kernel_rfl) ?_)
  have cr := fun n H => rreg_ok R hR n H
  obtain ⟨E, hE⟩ : ∃ E, E = addrR i R := ⟨_, rfl⟩
  rw [← hE]
  unfold addrR at hE
  obtain ⟨op, bin, sh, co, dst, src, imm, base, index, hb, hi, disp, lab⟩ := i
  have hl : (Regs R).length = 16 := by simpa using hR
  simp only at hE ⊢
  obtain ⟨A, hA⟩ : ∃ A, A = Regs R := ⟨_, rfl⟩
  rw [← hA] at hl cr ⊢
  have tA : A.take 16 = A := List.take_of_length_le (by omega)
  clear hA
  cases hb <;> cases hi
  all_goals simp -dsimp [hl, tA]
  all_goals repeat' first
    | (refine acallsW_det (cr _ _) ?_; simp -dsimp [hl, tA])
  all_goals first
    | exact tidy_same rfl ⟨by rw [hE]; simp [wU], rfl⟩
theorem wU_wU (n : Int) : wU (wU n) = wU n := wd_wrap (by have := wU_rng n; exact ⟨this.1, by simpa using this.2⟩)
theorem address_same (i : Amd) (R : List Int) : addrR i R = addrE i R := by
  unfold addrR addrE
  simp only
  have rg : ∀ n, rgV R n = if Lm.isReg n = true then vg R n else 0 := fun n => by
    unfold rgV Lm.isReg
    by_cases h : n < 0 ∨ 15 < n
    · rw [if_pos h, if_neg (by simp; omega)]
    · rw [if_neg h, if_pos (by simp; omega)]
  rw [rg, rg]
  have w0 : wU (8 * 0) = 0 := by decide
  have w1 : wU 0 = 0 := by decide
  cases i.hasBase <;> cases i.hasIndex <;> cases Lm.isReg i.base <;> cases Lm.isReg i.index <;> simp [wU_wU, w0, w1]
theorem sameRegs_ok (a : List Int) (ha : a.length ≤ 2^40) (H : List Blk) : ACalls Tryz.prog 20 [.vs 1 (reE a), .vs 1 (reE a)] H (fun e H' => e = .ret (Bo true) ∧ H' = H) := by
  refine acalls_tidy (acalls_of_vc (hn := fun _ => false) (od := fun _ => none) Tryz.func20 rfl (by kernel_rfl) ?_)
  simp -dsimp
  refine loop_rule (hn := fun _ => false) (od := fun _ => none) (fun (i : Nat) f H' => H = H' ∧ f 0 = .vs 1 (reE a) ∧ f 1 = .vs 1 (reE a) ∧ f 5 = I i ∧ i ≤ a.length) (fun i => a.length - i) (by kernel_rfl) 0 (by simp) ?_
  rintro i f _ ⟨rfl, h0, h1', h5, hi⟩
  simp -dsimp [h0, h1', h5]
  refine condVW_introD (fun hlt => ?_) (fun hlt => ?_)
  · have e1 := List.getElem?_eq_getElem hlt
    obtain ⟨x, hx⟩ : ∃ x, x = a[i] := ⟨_, rfl⟩
    rw [← hx] at e1
    clear hx
    simp -dsimp [h0, h1', h5, e1]
    exact ⟨i + 1, by omega, wrapS (by omega), by omega⟩
  · simp -dsimp
    exact tidy_now rfl ⟨rfl, rfl⟩
theorem readsE_len (i : Amd) : (readsE i).length ≤ 5 := by
  unfold readsE
  split
  · refine Nat.le_trans (riseL_len _) ?_
    unfold readsP
    refine Nat.le_trans (addIf_len _ _ _) (Nat.succ_le_succ (Nat.le_trans (addIf_len _ _ _) (Nat.succ_le_succ (Nat.le_trans (addIf_len _ _ _) (Nat.succ_le_succ (Nat.le_trans (addIf_len _ _ _) (Nat.succ_le_succ (addIf_len _ _ _))))))))
  · exact Nat.zero_le _
theorem eq_bool (a : Bool) : binE Tryz.prog .eql 4 (Bo a) (Bo a) = some (Bo true) := by cases a <;> kernel_rfl
theorem parts_law (i : Amd) (hw : Wd i.imm) (hdp : -9223372036854775808 ≤ i.disp ∧ i.disp ≤ 9223372036854775807) (R : List Int) (hR : R.length = 16) (x : Int) (hx : Wd x) (H : List Blk) :
    ACalls Tryz.prog 4 [.agg i.cells, .agg (Regs R), U x] H (fun e H' => e = .ret (Bo true) ∧ H' = H) := by
  refine acalls_tidy (acalls_of_awp Tryz.func4 rfl (by kernel_rfl) ?_)
  have cm := fun H => amayone_ok i H
  have cr := fun H => rmayone_ok i H
  rw [rMay1_eq i hw hdp] at cr
  have cd := fun H => areads_ok i H
  have cD := fun H => rreads_ok i H
  rw [reads_same i hw hdp] at cD
  have cw := fun H => awrites_ok i H
  have cW := fun H => rwrites_ok i H
  rw [writes_same i hw hdp] at cW
  have ca := fun H => address_ok i R hR H
  have cA := fun H => raddress_ok i R hR H
  rw [address_same] at cA
  have cs := fun H => Lm.short_ok x H
  have cS := fun H => rshort19_ok x H
  rw [← short_eq hx] at cS
  have cq := fun H => sameRegs_ok (readsE i) (Nat.le_trans (readsE_len i) (by decide)) H
  have ck := known19_ok
  have eb := eq_bool
  generalize readsE i = rd at cd cD cq
  generalize writesE i = wr at cw cW
  generalize Lm.mayOne i = mo at cm cr
  generalize addrE i R = ad at ca cA
  generalize Lm.short x = sh at cs cS
  obtain ⟨rc, hrc⟩ : ∃ rc, rc = Regs R := ⟨_, rfl⟩
  have hrl : rc.length = 16 := by rw [hrc]; simp [hR]
  rw [← hrc] at ca cA ⊢
  have trc : rc.take 16 = rc := List.take_of_length_le (by omega)
  obtain ⟨ic, hic⟩ : ∃ ic, ic = i.cells := ⟨_, rfl⟩
  have hic' := hic
  simp only [Lm.Amd.cells] at hic'
  rw [← hic] at cm cr cd cD cw cW ⊢
  have hil : ic.length = 13 := by rw [hic']; rfl
  have hit : ic.take 13 = ic := List.take_of_length_le (by omega)
  have hd7 : (ic.drop 7).take 5 = [I i.base, I i.index, Bo i.hasBase, Bo i.hasIndex, I i.disp] := by rw [hic']; rfl
  refine awp_cut (fun _ => false) (fun _ => none) (fun f M => M = H ++ [.box 56 ic, .box 24 rc] ∧ f 2 = U x ∧ f 3 = .bp H.length 0 ∧ f 4 = .bp (H.length + 1) 0) (by kernel_rfl) ?_ ?_
  · simp -dsimp [hil, hrl]
  rintro f M ⟨hM, f2, f3, f4⟩
  have g3 : M[H.length]? = some (.box 56 ic) := by rw [hM]; simp
  have g4 : M[H.length + 1]? = some (.box 24 rc) := by rw [hM]; simp
  refine awp_cut (fun _ => false) (fun _ => none) (fun f M' => M' = M ∧ f 2 = U x ∧ f 3 = .bp H.length 0 ∧ f 4 = .bp (H.length + 1) 0 ∧ f 7 = I wr.1 ∧ f 8 = Bo wr.2) (by kernel_rfl) ?_ ?_
  · simp -dsimp [f2, f3, f4, g3, hil, hit]
    refine acallsW_det (cw _) ?_
    simp -dsimp [f2, f3, f4]
  clear f2 f3 f4 f
  rintro f Mx ⟨hMx, f2, f3, f4, f7, f8⟩
  rw [hMx]
  clear hMx Mx
  refine awp_cut (fun _ => false) (fun _ => none) (fun f M' => M' = M ∧ f 2 = U x ∧ f 3 = .bp H.length 0 ∧ f 4 = .bp (H.length + 1) 0 ∧ f 7 = I wr.1 ∧ f 8 = Bo wr.2 ∧ f 9 = I wr.1 ∧ f 10 = Bo wr.2) (by kernel_rfl) ?_ ?_
  · simp -dsimp [f2, f3, f4, f7, f8, g3, hil, hit]
    refine acallsW_det (cW _) ?_
    simp -dsimp [f2, f3, f4, f7, f8]
  clear f2 f3 f4 f7 f8 f
  rintro f Mx ⟨hMx, f2, f3, f4, f7, f8, f9, f10⟩
  rw [hMx]
  clear hMx Mx
  refine awp_all (hn := fun _ => false) (od := fun _ => none) (by kernel_rfl) ?_
  simp -dsimp [f2, f3, f4, f7, f8, f9, f10, g3, g4, hil, hit, eb]
  refine callDW_intro (cm _) ?_
  simp -dsimp [f2, f3, f4, f7, f8, f9, f10, g3, g4, hil, hit, eb]
  refine callDW_intro (cr _) ?_
  simp -dsimp [f2, f3, f4, f7, f8, f9, f10, g3, g4, hil, hit, eb]
  refine callDW_intro (cd _) ?_
  simp -dsimp [f2, f3, f4, f7, f8, f9, f10, g3, g4, hil, hit, eb]
  refine callDW_intro (cD _) ?_
  simp -dsimp [f2, f3, f4, f7, f8, f9, f10, g3, g4, hil, hit, eb]
  refine callDW_intro (cq _) ?_
  simp -dsimp [f2, f3, f4, f7, f8, f9, f10, g3, g4, hil, hit, hrl, trc, hd7, eb]
  refine callDW_intro (ca _) ?_
  simp -dsimp [f2, f3, f4, f7, f8, f9, f10, g3, g4, hil, hit, hrl, trc, hd7, eb]
  refine callDW_intro (cA _) ?_
  simp -dsimp [f2, f3, f4, f7, f8, f9, f10, g3, g4, hil, hit, hrl, trc, hd7, eb]
  refine callDW_intro (cs _) ?_
  simp -dsimp [f2, f3, f4]
  refine callDW_intro (cS _) ?_
  simp -dsimp [f2, f3, f4, eb]
  refine callDW_intro (ck _) ?_
  simp -dsimp
  rw [hM]
  exact tidy_same rfl ⟨rfl, rfl⟩
end Go.Proofs
