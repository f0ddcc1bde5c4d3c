/- Functions of Go's library as they stand in this program: laid by the kit's own tool. -/
import Derived.Test.YtganjkhdlehhdaaGreatFwCompacttoCN2
import Derived.Test.YtganjkhdlehhdaaGreatProg
import Derived.Test.YtganjkhdlehhdaaGreatFwJmptoAMG
import Derived.Test.YtganjkhdlehhdaaGreatKN41toAMJ
import Derived.Test.YtganjkhdlehhdaaGreatFwRowtoME6
import Derived.Test.YtganjkhdlehhdaaGreatFwSortM
import Derived.Test.YtganjkhdlehhdaaGreatFS8
set_option linter.unusedVariables false
set_option linter.unusedSimpArgs false
set_option maxHeartbeats 4000000
set_option maxRecDepth 100000
namespace Go.Proofs
open Go.Shelf
def Tryz.compReg_ren : Go.Shelf.Ren := ⟨fun | 43 => 58 | n => n, fun | 22 => 61 | 23 => 52 | 3 => 3 | 4 => 4 | 0 => 0 | n => n, fun | n => n⟩
theorem Tryz.compReg : Go.Proofs.SlLaysN.n43 Tryz.prog Tryz.compReg_ren := {
  mixed := by kernel_rfl
  f43 := ⟨Tryz.f58.name, by decide, Tryz.func58.trans (congrArg some (by kernel_rfl))⟩
  t0 := Tryz.underlying0
  a0 := Tryz.isAgg0
  z0 := Tryz.sizeOf0
  v0 := Tryz.zeroValue0
  t3 := Tryz.underlying3
  a3 := Tryz.isAgg3
  z3 := Tryz.sizeOf3
  v3 := Tryz.zeroValue3
  t4 := Tryz.underlying4
  a4 := Tryz.isAgg4
  z4 := Tryz.sizeOf4
  v4 := Tryz.zeroValue4
  t22 := Tryz.underlying61
  a22 := Tryz.isAgg61
  z22 := Tryz.sizeOf61
  v22 := Tryz.zeroValue61
  t23 := Tryz.underlying52
  a23 := Tryz.isAgg52
  z23 := Tryz.sizeOf52
  v23 := Tryz.zeroValue52
  i23 := by kernel_rfl }
end Go.Proofs
namespace Go.Proofs
open Go.Mu
abbrev reE (l : List Int) : List (List AV) := l.map fun x => [I x]
abbrev rgB (l : List Int) : Blk := ownB 52 1 (reE l)
abbrev rgS (k : Nat) (l : List Int) : AV := ownS k (reE l)
theorem rsort_ok (l : List Int) (hl : l.length ≤ 2^40) (k : Nat) (H : List Blk) (hK : H[k]? = some (.row 52 1 (reE l))) : ACalls Tryz.prog 57 [.hs k 0 l.length l.length] H (fun e H' => e = .ret (.tup []) ∧ H' = H.set k (.row 52 1 (reE (sortI l)))) := by
  refine acalls_sort1 (enc := Value.int .i64) (fun x => rfl) l (sortI l) (List.length_mergeSort _) (fun blk cap w hH hb => ?_) hK
  exact AnyM.slices_Sort_int Tryz.sortReg blk 0 cap l w hH hb (by omega)
theorem rsort0_ok (H : List Blk) : ACalls Tryz.prog 57 [nilS] H (fun e H' => e = .ret (.tup []) ∧ H' = H) := by
  intro B w0 cx vals hR hH hA
  subst hH
  obtain ⟨v1, vs1, rfl, r1, hA1⟩ := hA.cons_inv
  obtain rfl := hA1.nil_inv
  obtain rfl := r1.v_inv
  refine (AnyM.slices_Sort_int_none Tryz.sortReg none 0 cx.w).mono ?_
  rintro e w' ⟨rfl, rfl⟩
  exact ⟨cx, .tup [], rfl, hR, Le.refl _, tup_nil_undef _ _, rfl, rfl⟩
theorem rcomp_ok (l : List Int) (hl : l.length ≤ 2^40) (k : Nat) (H : List Blk) (hK : H[k]? = some (.row 52 1 (reE l))) : ACalls Tryz.prog 58 [.hs k 0 l.length l.length] H (fun e H' => e = .ret (.hs k 0 (Lib.compact l).length l.length) ∧ H' = H.set k (.row 52 1 (reE (compRow l)))) :=
  acalls_compact l (fun blk cap w hH hb hc => AnyG.slices_Compact_int Tryz.compReg blk 0 cap l w hH (by omega) hc) hK
theorem rcomp0_ok (H : List Blk) : ACalls Tryz.prog 58 [nilS] H (fun e H' => e = .ret nilS ∧ H' = H) := by
  intro B w0 cx vals hR hH hA
  subst hH
  obtain ⟨v1, vs1, rfl, r1, hA1⟩ := hA.cons_inv
  obtain rfl := hA1.nil_inv
  obtain rfl := r1.v_inv
  refine (AnyG.slices_Compact_int_empty Tryz.compReg none 0 cx.w).mono ?_
  rintro e w' ⟨rfl, rfl⟩
  exact ⟨cx, nilS, rfl, hR, Le.refl _, .v _, rfl, rfl⟩
theorem radd_ok (is : Bool) (r : Int) (l : List Int) (hl : l.length ≤ 2^30) {M : List Blk} {ks kb : Nat} (hne : kb ≠ ks) (h1 : M[ks]? = some (rgB l)) (h2 : M[kb]? = some (.box 61 [rgS ks l])) :
    ACalls Tryz.prog 55 [Bo is, I r, .bp kb 0] M (fun e M' => e = .ret (.tup []) ∧ M' = (M.set ks (rgB (if is = true then l ++ [r] else l))).set kb (.box 61 [rgS ks (if is = true then l ++ [r] else l)])) := by
  refine acalls_of_vc (hn := fun d => d == 9) (od := fun _ => none) Tryz.func55 rfl (by kernel_rfl) ?_
  cases is
  · simp -dsimp
    rw [setSelf h1, setSelf h2]
  · obtain ⟨sx, hsx⟩ : ∃ sx, sx = rgS ks l := ⟨_, rfl⟩
    obtain ⟨q, hq⟩ : ∃ q, q = l ++ [r] := ⟨_, rfl⟩
    have hap : reE l ++ [[I r]] = reE q := by rw [hq]; simp
    rw [← hsx] at h2
    simp -dsimp [h2]
    rw [hsx]
    refine appendVW_own (k := ks) (es := reE l) h1 (by rw [List.length_map]; show (l.length + 1) * 8 ≤ _; omega) (by rw [List.length_map]; show l.length + 1 ≤ _; omega) ?_
    rw [hap, ← hq]
    have o1 : AV.one (rgS ks q) = true := one_ownS _ _
    have o2 : avCells (rgS ks q) = some [rgS ks q] := avCells_ownS _ _
    have g2 : (M.set ks (rgB q))[kb]? = some (.box 61 [sx]) := by rw [List.getElem?_set_ne (fun e => hne e.symm)]; exact h2
    obtain ⟨sy, hsy⟩ : ∃ sy, sy = rgS ks q := ⟨_, rfl⟩
    obtain ⟨by', hby⟩ : ∃ by', by' = rgB q := ⟨_, rfl⟩
    have e1 : ownS ks (reE q) = sy := hsy.symm
    have e2 : ownB 52 1 (reE q) = by' := hby.symm
    rw [← hsy] at o1 o2
    rw [← hby] at g2
    rw [e1, e2]
    simp -dsimp [g2, o1, o2]
    rw [hby, hsy]
def freshO (op : Int) : Bool := decide (op ∈ ([1, 2, 3, 15] : List Int))
def addIf (b : Bool) (r : Int) (l : List Int) : List Int := if b = true then l ++ [r] else l
def readsP (i : Amd) (p : Int) : List Int :=
  addIf i.hasIndex i.index (addIf i.hasBase i.base (addIf (i.op == 7) 1 (addIf (Lm.bitP p 1 && !freshO i.op) i.dst (addIf (Lm.bitP p 2) i.src []))))
def partOf (i : Amd) : Int := (Lm.partsT.lookup i.op).getD 0
def readsE (i : Amd) : List Int := if Lm.mayOne i = true then riseL (readsP i (partOf i)) else []
theorem acont_ok (op : Int) (H : List Blk) : ACalls Tryz.prog 56 [.vs 1 [[I 1], [I 2], [I 3], [I 15]], I op] H (fun e H' => e = .ret (Bo (freshO op)) ∧ H' = H) := by
  refine acalls_of_vc (hn := fun _ => false) (od := fun _ => none) Tryz.func56 rfl (by kernel_rfl) ?_
  have ci : ∀ H, ACalls Tryz.prog 95 [.vs 1 [[I 1], [I 2], [I 3], [I 15]], I op] H (fun e H' => e = .ret (I (if op = 1 then 0 else if op = 2 then 1 else if op = 3 then 2 else if op = 15 then 3 else -1)) ∧ H' = H) := by
    intro H
    refine acalls_of_vc (hn := fun _ => false) (od := fun _ => none) Tryz.func95 rfl (by kernel_rfl) ?_
    obtain ⟨R, hR⟩ : ∃ R : Int, R = if op = 1 then 0 else if op = 2 then 1 else if op = 3 then 2 else if op = 15 then 3 else -1 := ⟨_, rfl⟩
    rw [← hR]
    obtain ⟨l, hl⟩ : ∃ l : List (List AV), l = [[I 1], [I 2], [I 3], [I 15]] := ⟨_, rfl⟩
    rw [← hl]
    have ll : l.length = 4 := by rw [hl]; rfl
    have g0 : l[0]? = some [I 1] := by rw [hl]; rfl
    have g1 : l[1]? = some [I 2] := by rw [hl]; rfl
    have g2 : l[2]? = some [I 3] := by rw [hl]; rfl
    have g3 : l[3]? = some [I 15] := by rw [hl]; rfl
    clear hl
    simp -dsimp [ll]
    refine loop_rule (hn := fun _ => false) (od := fun _ => none) (fun (i : Nat) f H' => H' = H ∧ f 0 = .vs 1 l ∧ f 1 = I op ∧ f 7 = I 4 ∧ f 8 = I i ∧ i ≤ 4 ∧ (0 < i → op ≠ 1) ∧ (1 < i → op ≠ 2) ∧ (2 < i → op ≠ 3) ∧ (3 < i → op ≠ 15)) (fun i => 4 - i) (by kernel_rfl) 0 (by simp) ?_
    rintro i f H' ⟨rfl, f0, f1, f7, f8, hi, q0, q1, q2, q3⟩
    have : i = 0 ∨ i = 1 ∨ i = 2 ∨ i = 3 ∨ i = 4 := by omega
    rcases this with rfl | rfl | rfl | rfl | rfl
    · by_cases e : op = 1
      · subst e; simp -dsimp [f0, f1, f7, f8, g0]; rw [hR]; rfl
      · have e' : (op == 1) = false := by simp [e]
        simp -dsimp [f0, f1, f7, f8, g0, e']
        exact ⟨1, by decide, by decide, by decide, fun _ => e, by simp, by simp, by simp⟩
    · have q0 := q0 (by omega)
      by_cases e : op = 2
      · subst e; simp -dsimp [f0, f1, f7, f8, g1]; rw [hR]; rfl
      · have e' : (op == 2) = false := by simp [e]
        simp -dsimp [f0, f1, f7, f8, g1, e']
        exact ⟨2, by decide, by decide, by decide, fun _ => q0, fun _ => e, by simp, by simp⟩
    · have q0 := q0 (by omega)
      have q1 := q1 (by omega)
      by_cases e : op = 3
      · subst e; simp -dsimp [f0, f1, f7, f8, g2]; rw [hR]; rfl
      · have e' : (op == 3) = false := by simp [e]
        simp -dsimp [f0, f1, f7, f8, g2, e']
        exact ⟨3, by decide, by decide, by decide, fun _ => q0, fun _ => q1, fun _ => e, by simp⟩
    · have q0 := q0 (by omega)
      have q1 := q1 (by omega)
      have q2 := q2 (by omega)
      by_cases e : op = 15
      · subst e; simp -dsimp [f0, f1, f7, f8, g3]; rw [hR]; rfl
      · have e' : (op == 15) = false := by simp [e]
        simp -dsimp [f0, f1, f7, f8, g3, e']
        exact ⟨4, by decide, by decide, by decide, fun _ => q0, fun _ => q1, fun _ => q2, fun _ => e⟩
    · have q0 := q0 (by omega)
      have q1 := q1 (by omega)
      have q2 := q2 (by omega)
      have q3 := q3 (by omega)
      simp -dsimp [f0, f1, f7, f8]
      rw [hR, if_neg q0, if_neg q1, if_neg q2, if_neg q3]
  simp -dsimp
  refine acallsW_det (ci _) ?_
  have e : decide (0 ≤ (if op = 1 then (0 : Int) else if op = 2 then 1 else if op = 3 then 2 else if op = 15 then 3 else -1)) = freshO op := by
    unfold freshO
    refine decide_eq_decide.2 ?_
    simp only [List.mem_cons, List.not_mem_nil, or_false]
    constructor
    · intro h
      by_cases h1 : op = 1
      · exact .inl h1
      · rw [if_neg h1] at h
        by_cases h2 : op = 2
        · exact .inr (.inl h2)
        · rw [if_neg h2] at h
          by_cases h3 : op = 3
          · exact .inr (.inr (.inl h3))
          · rw [if_neg h3] at h
            by_cases h4 : op = 15
            · exact .inr (.inr (.inr h4))
            · rw [if_neg h4] at h; omega
    · rintro (rfl | rfl | rfl | rfl) <;> decide
  simp -dsimp [e]
end Go.Proofs
namespace Go.Proofs
open Go.Mu
def asksO (op : Int) : Bool := op == 11 || op == 12 || op == 13
def writesE (i : Amd) : Int × Bool := if Lm.mayOne i && !asksO i.op && Lm.bitP (partOf i) 1 then (i.dst, true) else (0, false)
def wrOd (i : Nat) : Option OPlan := if i = 2 then some [(0, []), (1, []), (2, []), (3, []), (4, []), (5, []), (6, []), (8, []), (9, []), (7, [8, 9]), (10, []), (11, []), (12, []), (13, [])] else none
theorem awrites_ok (i : Amd) (H : List Blk) : ACalls Tryz.prog 16 [.agg i.cells] H (fun e H' => e = .ret (.tup [I (writesE i).1, Bo (writesE i).2]) ∧ H' = H) := by
  refine acalls_tidy (acalls_of_awp Tryz.func16 rfl (by kernel_rfl) ?_)
  have cp := Lm.parts_ok
  have cm := fun H => amayone_ok i H
  obtain ⟨E, hE⟩ : ∃ E, E = writesE i := ⟨_, rfl⟩
  rw [← hE]
  unfold writesE at hE
  obtain ⟨p, hp⟩ : ∃ p, p = partOf i := ⟨_, rfl⟩
  rw [← hp] at hE
  have hlk : (Lm.partsT.lookup i.op).getD 0 = p := hp.symm
  have hf := Lm.tab_find i.op Lm.partsT
  have hgd := Lm.getDI (List.lookup i.op Lm.partsT)
  rw [hlk] at hgd
  clear hlk hp
  obtain ⟨mo, hmo⟩ : ∃ mo, mo = Lm.mayOne i := ⟨_, rfl⟩
  rw [← hmo] at cm hE
  obtain ⟨ak, hak⟩ : ∃ ak, ak = asksO i.op := ⟨_, rfl⟩
  rw [← hak] at hE
  unfold asksO at hak
  have b1 : ∀ L, (H ++ (.box 56 i.cells) :: L)[H.length]? = some (.box 56 i.cells) := fun L => by simp
  simp only [Lm.Amd.cells] at b1 cm
  refine awp_cut (fun _ => false) (fun _ => none) (fun f M => M = H ++ [(.box 56 i.cells)] ∧ f 1 = .bp H.length 0) (by kernel_rfl) ?_ ?_
  · simp -dsimp
  rintro f M ⟨hM, f1⟩
  rw [hM]
  clear hM M
  refine awp_cut (fun _ => false) (fun _ => none) (fun f M => M = H ++ [(.box 56 i.cells)] ∧ f 1 = .bp H.length 0 ∧ f 4 = Bo ak) (by kernel_rfl) ?_ ?_
  · cases q1 : (i.op == 11) <;> cases q2 : (i.op == 12)
    all_goals
      rw [q1, q2] at hak
      simp -dsimp [f1, b1, q1, q2]
      simp [hak]
  clear f1 f
  rintro f M ⟨hM, f1, f4⟩
  rw [hM]
  clear hM M
  have mp : mapEs (H ++ [(.box 56 i.cells), (.map (Lm.tabM Lm.partsT))]) (.hm (H.length + 1)) = some (Lm.tabM Lm.partsT) := by simp [mapEs]
  have hl2 : (H ++ [(Blk.box 56 i.cells)]).length = H.length + 1 := by simp
  have cp2 := cp (H ++ [(.box 56 i.cells)])
  rw [hl2] at cp2
  refine awp_all (hn := fun d => d == 25) (od := wrOd) (by kernel_rfl) ?_
  cases mo
  · simp -dsimp [f1, f4, b1, wrOd]
    refine callDW_intro (cm _) ?_
    simp -dsimp [f1, f4, b1, wrOd]
    rw [hE]
    exact tidy_same rfl ⟨rfl, rfl⟩
  cases ak
  · simp -dsimp [f1, f4, b1, wrOd]
    refine callDW_intro (cm _) ?_
    simp -dsimp [f1, f4, b1, wrOd]
    refine acallsW_of cp2 ?_
    rintro e _ ⟨rfl, rfl⟩
    have bp1 : (IntKind.i64.wrap ↑((p % 2 ^ IntKind.i64.bits).toNat &&& 1 % 2 ^ IntKind.i64.bits) == 0) = !Lm.bitP p 1 := by simp [Lm.bitP, IntKind.bits, bne]
    cases hd : Lm.bitP p 1
    all_goals
      rw [hd] at bp1 hE
      simp -dsimp [f1, f4, b1, mp, hf, hgd, bp1, wrOd]
      rw [hE]
      exact tidy_same rfl ⟨rfl, rfl⟩
  · simp -dsimp [f1, f4, b1, wrOd]
    refine callDW_intro (cm _) ?_
    simp -dsimp [f1, f4, b1, wrOd]
    rw [hE]
    exact tidy_same rfl ⟨rfl, rfl⟩
end Go.Proofs
