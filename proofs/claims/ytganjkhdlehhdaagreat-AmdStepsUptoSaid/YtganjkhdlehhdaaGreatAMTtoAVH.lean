/- The document: registers put in, sorted; what is read. -/
import Derived.Test.YtganjkhdlehhdaaGreatKN41toAMJ
import Derived.Test.YtganjkhdlehhdaaGreatFS9toAMQ
import Derived.Test.YtganjkhdlehhdaaGreatAMO
import Derived.Test.YtganjkhdlehhdaaGreatFwJmptoAMG
import Derived.Test.YtganjkhdlehhdaaGreatAMKtoAVG
import Derived.Test.YtganjkhdlehhdaaGreatRL4toAMS
set_option linter.unusedVariables false
set_option linter.unusedSimpArgs false
set_option maxHeartbeats 4000000
set_option maxRecDepth 100000
namespace Go.Proofs
open Go.Mu
end Go.Proofs
namespace Go.Proofs
open Go.Mu
def rgV (R : List Int) (n : Int) : Int := if n < 0 ∨ 15 < n then 0 else vg R n
theorem rreg_ok (R : List Int) (hR : R.length = 16) (n : Int) (H : List Blk) : ACalls Tryz.prog 61 [.agg (Regs R), I n] H (fun e H' => e = .ret (U (rgV R n)) ∧ H' = H) := by
  refine acalls_tidy (acalls_of_vc (hn := fun _ => false) (od := fun _ => none) Tryz.func61 rfl (by kernel_rfl) ?_)
  obtain ⟨E, hE⟩ : ∃ E, E = rgV R n := ⟨_, rfl⟩
  rw [← hE]
  unfold rgV at hE
  obtain ⟨rc, hrc⟩ : ∃ rc, rc = Regs R := ⟨_, rfl⟩
  have hrl : rc.length = 16 := by rw [hrc]; simp [hR]
  rw [← hrc]
  by_cases h0 : n < 0
  · have d0 : decide (n < 0) = true := decide_eq_true h0
    rw [if_pos (.inl h0)] at hE
    simp -dsimp [hrl, d0]
    rw [hE]
    exact tidy_same rfl ⟨rfl, rfl⟩
  · have d0 : decide (n < 0) = false := decide_eq_false h0
    by_cases h1 : 15 < n
    · have d1 : decide (15 < n) = true := decide_eq_true h1
      rw [if_pos (.inr h1)] at hE
      simp -dsimp [hrl, d0, d1]
      rw [hE]
      exact tidy_same rfl ⟨rfl, rfl⟩
    · have d1 : decide (15 < n) = false := decide_eq_false h1
      rw [if_neg (by omega)] at hE
      have rr : 0 ≤ n ∧ n < 16 := by omega
      have g : rc[n.toNat]? = some (U E) := by rw [hrc, List.getElem?_map, vg_at rr.1 (by omega), hE]; rfl
      have gg : ∀ h : n.toNat < rc.length, rc[n.toNat]'h = U E := fun h => by have := List.getElem?_eq_getElem h; rw [g] at this; exact (Option.some.inj this).symm
      simp -dsimp [hrl, d0, d1, rr, g, gg]
      exact tidy_same rfl ⟨rfl, rfl⟩
def addrR (i : Amd) (R : List Int) : Int :=
  let x := wU i.disp
  let y := if i.hasBase = true then wU (x + rgV R i.base) else x
  if i.hasIndex = true then wU (y + wU (8 * rgV R i.index)) else y
theorem raddress_ok (i : Amd) (R : List Int) (hR : R.length = 16) (H : List Blk) : ACalls Tryz.prog 24 [.agg [I i.base, I i.index, Bo i.hasBase, Bo i.hasIndex, I i.disp], .agg (Regs R)] H (fun e H' => e = .ret (U (addrR i R)) ∧ H' = H) := by
  refine acalls_tidy (acalls_of_vc (hn := fun _ => false) (od := fun _ => none) Tryz.func24 rfl (by kernel_rfl) ?_)
  have cr := fun n H => rreg_ok R hR n H
  obtain ⟨E, hE⟩ : ∃ E, E = addrR i R := ⟨_, rfl⟩
  rw [← hE]
  unfold addrR at hE
  obtain ⟨op, bin, sh, co, dst, src, imm, base, index, hb, hi, disp, lab⟩ := i
  have hl : (Regs R).length = 16 := by simpa using hR
  simp only at hE ⊢
  obtain ⟨A, hA⟩ : ∃ A, A = Regs R := ⟨_, rfl⟩
  rw [← hA] at hl cr ⊢
  have tA : A.take 16 = A := List.take_of_length_le (by omega)
  clear hA
  cases hb <;> cases hi
  all_goals simp -dsimp [hl, tA]
  all_goals repeat' first
    | (refine acallsW_det (cr _ _) ?_; simp -dsimp [hl, tA])
  all_goals first
    | exact tidy_same rfl ⟨by rw [hE]; simp [wU], rfl⟩
theorem wU_wU (n : Int) : wU (wU n) = wU n := wd_wrap (by have := wU_rng n; exact ⟨this.1, by simpa using this.2⟩)
theorem address_same (i : Amd) (R : List Int) : addrR i R = addrE i R := by
  unfold addrR addrE
  simp only
  have rg : ∀ n, rgV R n = if Lm.isReg n = true then vg R n else 0 := fun n => by
    unfold rgV Lm.isReg
    by_cases h : n < 0 ∨ 15 < n
    · rw [if_pos h, if_neg (by simp; omega)]
    · rw [if_neg h, if_pos (by simp; omega)]
  rw [rg, rg]
  have w0 : wU (8 * 0) = 0 := by decide
  have w1 : wU 0 = 0 := by decide
  cases i.hasBase <;> cases i.hasIndex <;> cases Lm.isReg i.base <;> cases Lm.isReg i.index <;> simp [wU_wU, w0, w1]
end Go.Proofs
namespace Go.Proofs
open Go.Mu
theorem stC_f {s : Mst} (h : s.R.length = 16) (F : Fl) : spl (stC s) 16 [Bo F.c, Bo F.z, Bo F.s, Bo F.o, Bo F.p] = stC { s with f := F } := by
  unfold stC spl
  have e : (Regs s.R).length = 16 := by simp [h]
  rw [List.take_append_of_le_length (by omega), List.take_of_length_le (by omega)]
  rw [show 16 + [Bo F.c, Bo F.z, Bo F.s, Bo F.o, Bo F.p].length = (Regs s.R).length + 5 by rw [e]; rfl, ← List.drop_drop, List.drop_left]
  rw [List.append_assoc]
  rfl
theorem ref_step (l : List Amd) (hm : Lm.mayA l = true) (hr : ∀ i ∈ l, Wd i.imm) (s : Mst) (hs : MsR s) (hsn : s.seen = []) (h0 : 0 ≤ s.at_) (h1 : s.at_ ≤ l.length) (hst : -1099511627776 ≤ s.steps ∧ s.steps ≤ 1099511627776) (lay : List Rg) (hl : lay.length ≤ 16) (ho : ∀ r ∈ lay, r.Ok) (hby : BytesOk s.b) {M : List Blk} {k kb : Nat} (m : RefAt M k kb (Rg.sl lay) s.b) :
    ACalls Tryz.prog 14 [Lm.Amd.sl l, .agg (stC s), .bp k 0] M (fun e M' => e = .ret (.tup [.agg (stC (stepM lay l s).1), Se.sl (stepM lay l s).1.seen, I (stepM lay l s).2]) ∧ M' = M.set kb (rowY (stepM lay l s).1.b)) := by
  refine acalls_under fun hu0 _ => acalls_weakE (acalls_tidy (acalls_of_awp Tryz.func14 rfl (by kernel_rfl) ?_))
  obtain ⟨sc, hsc⟩ : ∃ sc, sc = stC s := ⟨_, rfl⟩
  have hsl : sc.length = 23 := by rw [hsc]; exact stC_len hs.R
  rw [← hsc]
  obtain ⟨S, hS⟩ : ∃ S, S = stepM lay l s := ⟨_, rfl⟩
  rw [← hS]
  have hll : l.length ≤ 1048576 := by
    have := hm
    unfold Lm.mayA at this
    simp only [Bool.and_eq_true, decide_eq_true_eq] at this
    exact this.1.1
  have frzS : ∀ x : Mst, ∀ c ∈ stC x, AV.frzB c = true := fun x c hc => by
    unfold stC at hc
    simp only [List.mem_append, List.mem_map, List.mem_cons, List.not_mem_nil, or_false] at hc
    rcases hc with ⟨x, _, rfl⟩ | rfl | rfl | rfl | rfl | rfl | rfl | rfl <;> rfl
  have ryu : ∀ (n : Nat) (b : List Int), (rowY b).under n = true := fun n b => by
    show ((b.map fun x => [Y x]).all (underL n)) = true
    rw [List.all_eq_true]
    intro x hx
    obtain ⟨y, _, rfl⟩ := List.mem_map.1 hx
    rfl
  have leaf : ∀ (L : List Blk) (v : AV), Weak v (Se.sl S.1.seen) → v.under M.length = true → Tidy M (WeakE (fun e M' => e = .ret (.tup [.agg (stC S.1), Se.sl S.1.seen, I S.2]) ∧ M' = M.set kb (rowY S.1.b))) (.ret (.tup [.agg (stC S.1), v, I S.2])) (M.set kb (rowY S.1.b) ++ L) := fun L v hv hvu => by
    refine tidy_to (by rw [List.length_set]; omega) (fun _ => ?_) ?_ ⟨_, .tupL (.cons (.refl _) (.cons hv (.cons (.refl _) .nil))), rfl, rfl⟩
    · rw [List.length_set]
      exact underH_set hu0 (ryu _ _)
    · rw [List.length_set]
      show (underL M.length (stC S.1) && (v.under M.length && ((I S.2).under M.length && true))) = true
      rw [underL_frzB _ _ (frzS S.1), hvu]; rfl
  obtain ⟨Z, hZ⟩ : ∃ Z, Z = List.replicate 16 (U 0) ++ [Bo false, Bo false, Bo false, Bo false, Bo false, I 0, I 0] := ⟨_, rfl⟩
  refine awp_cut (fun _ => false) (fun _ => none) (fun f M' => M' = M ++ [.box 28 sc, .box 28 Z] ∧ f 0 = Lm.Amd.sl l ∧ f 2 = .bp k 0 ∧ f 4 = .bp M.length 0 ∧ f 6 = .bp (M.length + 1) 0) (by kernel_rfl) ?_ ?_
  · simp -dsimp [hsl]
    exact hZ.symm
  rintro f M' ⟨hM, f0, f2, f4, f6⟩
  rw [hM]; clear hM M'
  have selfM : M.set kb (rowY s.b) = M := setSelf m.bytes
  obtain ⟨NF, hNF⟩ : ∃ NF : List Int → List AV → List AV → List Blk → List Blk, ∀ b C D X, NF b C D X = M.set kb (rowY b) ++ ([.box 28 C, .box 28 D] ++ X) := ⟨_, fun _ _ _ _ => rfl⟩
  have h00 : M ++ [.box 28 sc, .box 28 Z] = NF s.b sc Z [] := by rw [hNF, selfM]; simp
  rw [h00]; clear h00
  have g4 : ∀ b C D X, (NF b C D X)[M.length]? = some (.box 28 C) := fun b C D X => by rw [hNF, List.getElem?_append_right (by simp)]; simp
  have g6 : ∀ b C D X, (NF b C D X)[M.length + 1]? = some (.box 28 D) := fun b C D X => by rw [hNF, List.getElem?_append_right (by simp)]; simp
  have s4 : ∀ b C D X C', (NF b C D X).set M.length (.box 28 C') = NF b C' D X := fun b C D X C' => by rw [hNF, hNF, List.set_append_right _ _ (by simp)]; simp
  have s6 : ∀ b C D X D', (NF b C D X).set (M.length + 1) (.box 28 D') = NF b C D' X := fun b C D X D' => by rw [hNF, hNF, List.set_append_right _ _ (by simp)]; simp
  have ap : ∀ b C D X Y, NF b C D X ++ Y = NF b C D (X ++ Y) := fun b C D X Y => by rw [hNF, hNF]; simp
  have ln : ∀ b C D X, (NF b C D X).length = M.length + (2 + X.length) := fun b C D X => by rw [hNF]; simp; omega
  have hZl : Z.length = 23 := by rw [hZ]; simp
  have one' : ∀ q : Mst, (stC q).all AV.one = true := stC_one
  have d21 : sc.drop 21 = [I s.at_, I s.steps] := by
    rw [hsc]; unfold stC
    rw [show (21 : Nat) = (Regs s.R).length + 5 by simp [hs.R], ← List.drop_drop, List.drop_left]
    rfl
  have tsc : sc.take 23 = sc := List.take_of_length_le (by omega)
  have osc : sc.all AV.one = true := by rw [hsc]; exact stC_one _
  have spZ : spl Z 0 sc = sc := spl_all _ _ (by omega)
  refine awp_cut (fun _ => false) (fun _ => none) (fun f M' => M' = NF s.b sc Z [] ∧ s.at_ < l.length ∧ f 0 = Lm.Amd.sl l ∧ f 2 = .bp k 0 ∧ f 4 = .bp M.length 0 ∧ f 6 = .bp (M.length + 1) 0) (by kernel_rfl) ?_ ?_
  · by_cases hend : s.at_ = l.length
    · have q : (s.at_ == (l.length : Int)) = true := by simp [hend]
      have hS' : S = (s, 6) := by
        rw [hS]; unfold stepM
        rw [List.getElem?_eq_none (by omega)]
      simp -dsimp [f0, f2, f4, f6, g4, d21, hsl, q, tsc, osc, hZl, g6, s6, spZ]
      have lf := leaf ([.box 28 sc, .box 28 sc]) nilS
      rw [hS'] at lf ⊢
      rw [← hsc] at lf ⊢
      have lf2 := lf (by rw [hsn]; exact .nil 3) rfl
      rw [hNF]
      exact lf2
    · have q : (s.at_ == (l.length : Int)) = false := by simp [hend]
      simp -dsimp [f0, f2, f4, f6, g4, d21, hsl, q]
      omega
  clear f0 f2 f4 f6 f
  rintro f M' ⟨hM, hlt, f0, f2, f4, f6⟩
  rw [hM]; clear hM M'
  have hnat : s.at_.toNat < l.length := by omega
  have hgi : l[s.at_.toNat]? = some l[s.at_.toNat] := List.getElem?_eq_getElem hnat
  have hmem : l[s.at_.toNat] ∈ l := List.getElem_mem hnat
  obtain ⟨i, hi⟩ : ∃ i, i = l[s.at_.toNat] := ⟨_, rfl⟩
  rw [← hi] at hgi hmem
  have hmo : Lm.mayOne i = true := by
    have := hm
    unfold Lm.mayA at this
    simp only [Bool.and_eq_true, List.all_eq_true, Lm.goodA] at this
    exact (this.2 i hmem).1
  have hiw := hr i hmem
  have hgl : ∀ h : s.at_.toNat < l.length, l[s.at_.toNat]'h = i := fun h => hi.symm
  clear hi
  obtain ⟨ic, hic⟩ : ∃ ic, ic = i.cells := ⟨_, rfl⟩
  have hic' := hic
  simp only [Lm.Amd.cells] at hic'
  have hil : ic.length = 13 := by rw [hic']; rfl
  have hit : ic.take 13 = ic := List.take_of_length_le (by omega)
  have ion : ic.all AV.one = true := by rw [hic']; rfl
  have gi : (l.map Lm.Amd.cells)[s.at_.toNat]? = some ic := by rw [List.getElem?_map, hgi, hic]; rfl
  have in0 : 0 ≤ s.at_ ∧ s.at_ < l.length := ⟨h0, hlt⟩
  refine awp_cut (fun _ => false) (fun _ => none) (fun f M' => M' = NF s.b sc Z [.box 56 ic] ∧ f 0 = Lm.Amd.sl l ∧ f 2 = .bp k 0 ∧ f 4 = .bp M.length 0 ∧ f 6 = .bp (M.length + 1) 0 ∧ f 9 = .bp (M.length + 2) 0) (by kernel_rfl) ?_ ?_
  · simp -dsimp [f0, f2, f4, f6, g4, d21, hsl, in0, gi, hit, hil, ion, hgl]
    rw [← hic']
    exact ⟨ap _ _ _ _ _, ln _ _ _ _⟩
  clear f0 f2 f4 f6 f
  rintro f M' ⟨hM, f0, f2, f4, f6, f9⟩
  rw [hM]; clear hM M'
  have g9 : ∀ b C D X, (NF b C D (.box 56 ic :: X))[M.length + 2]? = some (.box 56 ic) := fun b C D X => by rw [hNF, List.getElem?_append_right (by simp)]; simp
  have hi0 : ic.take 1 = [I i.op] := by rw [hic']; rfl
  have hg0 : ∀ h : 0 < ic.length, ic[0]'h = I i.op := fun h => by
    have h00 : ic[0]? = some (I i.op) := by rw [hic']; rfl
    have := List.getElem?_eq_getElem h
    rw [h00] at this
    exact (Option.some.inj this).symm
  have d22 : sc.drop 22 = [I s.steps] := by rw [show (22 : Nat) = 21 + 1 from rfl, ← List.drop_drop, d21]; rfl
  have wst : IntKind.i64.wrap (s.steps + 1) = s.steps + 1 := wrapI (by omega) (by omega)
  have wat : IntKind.i64.wrap (s.at_ + 1) = s.at_ + 1 := wrapI (by omega) (by omega)
  have hSi : S = if i.op = 19 then ({ s with at_ := s.at_ + 1 }, 0) else if i.op = 20 then ({ s with steps := s.steps + 1 }, 6)
      else if (deedM lay l i { s with steps := s.steps + 1, at_ := s.at_ + 1 }).2 = 0 then deedM lay l i { s with steps := s.steps + 1, at_ := s.at_ + 1 }
      else ({ (deedM lay l i { s with steps := s.steps + 1, at_ := s.at_ + 1 }).1 with at_ := IntKind.i64.wrap ((deedM lay l i { s with steps := s.steps + 1, at_ := s.at_ + 1 }).1.at_ - 1) }, (deedM lay l i { s with steps := s.steps + 1, at_ := s.at_ + 1 }).2) := by
    rw [hS]; unfold stepM
    rw [hgi]
    simp only [wst, wat]
  clear hS
  refine awp_cut (fun _ => false) (fun _ => none) (fun f M' => M' = NF s.b sc Z [.box 56 ic] ∧ i.op ≠ 20 ∧ f 0 = Lm.Amd.sl l ∧ f 2 = .bp k 0 ∧ f 4 = .bp M.length 0 ∧ f 6 = .bp (M.length + 1) 0 ∧ f 9 = .bp (M.length + 2) 0) (by kernel_rfl) ?_ ?_
  · by_cases h20 : i.op = 20
    · have q : (i.op == 20) = true := by simp [h20]
      have sp : spl sc 22 [I (s.steps + 1)] = stC { s with steps := s.steps + 1 } := by rw [hsc]; exact stC_steps hs.R _
      rw [if_neg (by omega), if_pos h20] at hSi
      obtain ⟨c2, hc2⟩ : ∃ c, c = stC { s with steps := s.steps + 1 } := ⟨_, rfl⟩
      rw [← hc2] at sp
      have l2 : c2.length = 23 := by rw [hc2]; exact stC_len hs.R
      have t2 : c2.take 23 = c2 := List.take_of_length_le (by omega)
      have o2 : c2.all AV.one = true := by rw [hc2]; exact stC_one _
      have spZ2 : spl Z 0 c2 = c2 := spl_all _ _ (by omega)
      simp -dsimp [f0, f2, f4, f6, f9, g4, g9, d21, d22, hsl, hi0, hg0, hil, q, wst, sp, s4, t2, o2, l2, hZl, g6, s6, spZ2]
      have lf := leaf ([.box 28 c2, .box 28 c2, .box 56 ic]) nilS
      rw [hSi] at lf ⊢
      rw [← hc2] at lf ⊢
      have lf2 := lf (by rw [hsn]; exact .nil 3) rfl
      rw [hNF]
      exact lf2
    · have q : (i.op == 20) = false := by simp [h20]
      simp -dsimp [f0, f2, f4, f6, f9, g9, hi0, hg0, hil, q]
      exact h20
  clear f0 f2 f4 f6 f9 f
  rintro f M' ⟨hM, h20, f0, f2, f4, f6, f9⟩
  rw [hM]; clear hM M'
  have g10 : ∀ b C D Y E X, (NF b C D (Y :: .box 28 E :: X))[M.length + 3]? = some (.box 28 E) := fun b C D Y E X => by rw [hNF, List.getElem?_append_right (by simp)]; simp
  have s10 : ∀ b C D Y E X E', (NF b C D (Y :: .box 28 E :: X)).set (M.length + 3) (.box 28 E') = NF b C D (Y :: .box 28 E' :: X) := fun b C D Y E X E' => by rw [hNF, hNF, List.set_append_right _ _ (by simp)]; simp
  refine awp_cut (fun _ => false) (fun _ => none) (fun f M' => M' = NF s.b sc Z [.box 56 ic, .box 28 sc] ∧ f 0 = Lm.Amd.sl l ∧ f 2 = .bp k 0 ∧ f 4 = .bp M.length 0 ∧ f 6 = .bp (M.length + 1) 0 ∧ f 9 = .bp (M.length + 2) 0 ∧ f 10 = .bp (M.length + 3) 0) (by kernel_rfl) ?_ ?_
  · simp -dsimp [f0, f2, f4, f6, f9, g4, hsl, tsc, osc]
    simp -dsimp [ap, ln]
  clear f0 f2 f4 f6 f9 f
  rintro f M' ⟨hM, f0, f2, f4, f6, f9, f10⟩
  rw [hM]; clear hM M'
  obtain ⟨ca, hca⟩ : ∃ c, c = stC { s with at_ := s.at_ + 1 } := ⟨_, rfl⟩
  have spa : spl sc 21 [I (s.at_ + 1)] = ca := by rw [hsc, hca]; exact stC_at hs.R _
  have la : ca.length = 23 := by rw [hca]; exact stC_len hs.R
  have ta : ca.take 23 = ca := List.take_of_length_le (by omega)
  have oa : ca.all AV.one = true := by rw [hca]; exact stC_one _
  have spZa : spl Z 0 ca = ca := spl_all _ _ (by omega)
  refine awp_cut (fun _ => false) (fun _ => none) (fun f M' => M' = NF s.b sc Z [.box 56 ic, .box 28 ca] ∧ f 0 = Lm.Amd.sl l ∧ f 2 = .bp k 0 ∧ f 4 = .bp M.length 0 ∧ f 6 = .bp (M.length + 1) 0 ∧ f 9 = .bp (M.length + 2) 0 ∧ f 10 = .bp (M.length + 3) 0) (by kernel_rfl) ?_ ?_
  · simp -dsimp [f0, f2, f4, f6, f9, f10, g10, s10, d21, hsl, wat, spa]
  clear f0 f2 f4 f6 f9 f10 f
  rintro f M' ⟨hM, f0, f2, f4, f6, f9, f10⟩
  rw [hM]; clear hM M'
  refine awp_cut (fun _ => false) (fun _ => none) (fun f M' => M' = NF s.b sc Z [.box 56 ic, .box 28 ca] ∧ i.op ≠ 19 ∧ f 0 = Lm.Amd.sl l ∧ f 2 = .bp k 0 ∧ f 4 = .bp M.length 0 ∧ f 6 = .bp (M.length + 1) 0 ∧ f 9 = .bp (M.length + 2) 0 ∧ f 10 = .bp (M.length + 3) 0) (by kernel_rfl) ?_ ?_
  · by_cases h19 : i.op = 19
    · have q : (i.op == 19) = true := by simp [h19]
      rw [if_pos h19] at hSi
      simp -dsimp [f0, f2, f4, f6, f9, f10, g9, g10, hi0, hg0, hil, q, ta, oa, la, hZl, g6, s6, spZa]
      have lf := leaf ([.box 28 sc, .box 28 ca, .box 56 ic, .box 28 ca]) nilS
      rw [hSi] at lf ⊢
      rw [← hca] at lf ⊢
      have lf2 := lf (by rw [hsn]; exact .nil 3) rfl
      rw [hNF]
      exact lf2
    · have q : (i.op == 19) = false := by simp [h19]
      simp -dsimp [f0, f2, f4, f6, f9, f10, g9, hi0, hg0, hil, q]
      exact h19
  clear f0 f2 f4 f6 f9 f10 f
  rintro f M' ⟨hM, h19, f0, f2, f4, f6, f9, f10⟩
  rw [hM]; clear hM M'
  rw [if_neg h19, if_neg h20] at hSi
  obtain ⟨t, ht⟩ : ∃ t : Mst, t = { s with steps := s.steps + 1, at_ := s.at_ + 1 } := ⟨_, rfl⟩
  rw [← ht] at hSi
  obtain ⟨co, hco⟩ : ∃ c, c = stC t := ⟨_, rfl⟩
  have dca : ca.drop 22 = [I s.steps] := by
    rw [hca]; unfold stC
    rw [show (22 : Nat) = (Regs s.R).length + 6 by simp [hs.R], ← List.drop_drop, List.drop_left]
    rfl
  have spo : spl ca 22 [I (s.steps + 1)] = co := by rw [hca, hco, ht]; exact stC_steps (s := { s with at_ := s.at_ + 1 }) hs.R _
  refine awp_cut (fun _ => false) (fun _ => none) (fun f M' => M' = NF s.b sc Z [.box 56 ic, .box 28 co] ∧ f 0 = Lm.Amd.sl l ∧ f 2 = .bp k 0 ∧ f 4 = .bp M.length 0 ∧ f 6 = .bp (M.length + 1) 0 ∧ f 9 = .bp (M.length + 2) 0 ∧ f 10 = .bp (M.length + 3) 0) (by kernel_rfl) ?_ ?_
  · simp -dsimp [f0, f2, f4, f6, f9, f10, g10, s10, dca, la, wst, spo]
  clear f0 f2 f4 f6 f9 f10 f
  rintro f M' ⟨hM, f0, f2, f4, f6, f9, f10⟩
  rw [hM]; clear hM M'
  have ir := mayOne_r hmo
  have bd := isReg_b ir.dst
  have bs := isReg_b ir.src
  have gd : sc[i.dst.toNat]? = some (U (vg s.R i.dst)) := by rw [hsc]; exact stC_get hs.R bd.1 bd.2
  have gs : sc[i.src.toNat]? = some (U (vg s.R i.src)) := by rw [hsc]; exact stC_get hs.R bs.1 bs.2
  have ge : ∀ b C D X, (NF b C D (.box 56 ic :: X))[M.length + 2]? = some (.box 56 i.cells) := fun b C D X => by rw [g9, hic]
  simp only [Lm.Amd.cells] at ge
  have d22' : i.dst ≤ 22 := by omega
  have s22' : i.src ≤ 22 := by omega
  refine awp_cut (fun _ => false) (fun _ => none) (fun f M' => M' = NF s.b sc Z [.box 56 ic, .box 28 co] ∧ f 11 = U (vg s.R i.dst) ∧ f 12 = U (vg s.R i.src) ∧ f 0 = Lm.Amd.sl l ∧ f 2 = .bp k 0 ∧ f 4 = .bp M.length 0 ∧ f 6 = .bp (M.length + 1) 0 ∧ f 9 = .bp (M.length + 2) 0 ∧ f 10 = .bp (M.length + 3) 0) (by kernel_rfl) ?_ ?_
  · simp -dsimp [f0, f2, f4, f6, f9, f10, g4, ge, gd, gs, bd, bs, hsl, d22', s22']
    skip
  clear f0 f2 f4 f6 f9 f10 f
  rintro f M' ⟨hM, f11, f12, f0, f2, f4, f6, f9, f10⟩
  rw [hM]; clear hM M'
  have cad := fun H => raddress_ok i s.R hs.R H
  rw [address_same] at cad
  have t16 : sc.take 16 = Regs s.R := by rw [hsc]; unfold stC; rw [List.take_append_of_le_length (by simp [hs.R]), List.take_of_length_le (by simp [hs.R])]
  obtain ⟨rc, hrc⟩ : ∃ rc, rc = Regs s.R := ⟨_, rfl⟩
  rw [← hrc] at t16 cad
  have wad : Wd (addrE i s.R) := wd_addr i s.R
  obtain ⟨ad, had⟩ : ∃ ad, ad = addrE i s.R := ⟨_, rfl⟩
  rw [← had] at cad wad
  refine awp_cut (fun _ => false) (fun _ => none) (fun f M' => M' = NF s.b sc Z [.box 56 ic, .box 28 co] ∧ f 13 = U ad ∧ f 0 = Lm.Amd.sl l ∧ f 2 = .bp k 0 ∧ f 4 = .bp M.length 0 ∧ f 6 = .bp (M.length + 1) 0 ∧ f 9 = .bp (M.length + 2) 0 ∧ f 10 = .bp (M.length + 3) 0 ∧ f 11 = U (vg s.R i.dst) ∧ f 12 = U (vg s.R i.src)) (by kernel_rfl) ?_ ?_
  · simp -dsimp [f0, f2, f4, f6, f9, f10, f11, f12, g4, ge, hsl, t16]
    refine acallsW_det (cad _) ?_
    simp -dsimp [f0, f2, f4, f6, f9, f10, f11, f12]
  clear f0 f2 f4 f6 f9 f10 f11 f12 f
  rintro f M' ⟨hM, f13, f0, f2, f4, f6, f9, f10, f11, f12⟩
  rw [hM]; clear hM M'
  -- OPS
  have hle : l.length ≤ 2^40 := by omega
  have kl : k < M.length := lt_of_get m.me
  have kbl : kb < M.length := lt_of_get m.bytes
  have refN : ∀ C D X, RefAt (NF s.b C D X) k kb (Rg.sl lay) s.b := fun C D X => by
    rw [hNF, selfM]
    exact ⟨by rw [List.getElem?_append_left kl]; exact m.me, by rw [List.getElem?_append_left kbl]; exact m.bytes, m.len⟩
  have sK : ∀ b C D X b', (NF b C D X).set kb (rowY b') = NF b' C D X := fun b C D X b' => by
    rw [hNF, hNF, List.set_append_left _ _ (by rw [List.length_set]; exact kbl), List.set_set]
  have tb : t.b = s.b := by rw [ht]
  have ts : t.seen = [] := by rw [ht]; exact hsn
  have tR : t.R = s.R := by rw [ht]
  have tf : t.f = s.f := by rw [ht]
  have tat : t.at_ = s.at_ + 1 := by rw [ht]
  have tst : t.steps = s.steps + 1 := by rw [ht]
  clear ht
  obtain ⟨C0, hC0⟩ : ∃ C0 : Fl → Int → List AV, ∀ F a, C0 F a = stC { t with f := F, at_ := a } := ⟨_, fun _ _ => rfl⟩
  obtain ⟨CC, hCC⟩ : ∃ CC : Int → Fl → Int → List AV, ∀ v F a, CC v F a = stC { t with R := t.R.set i.dst.toNat v, f := F, at_ := a } := ⟨_, fun _ _ _ => rfl⟩
  have hR0 : t.R.length = 16 := by rw [tR]; exact hs.R
  have hR1 : ∀ v, (t.R.set i.dst.toNat v).length = 16 := fun v => by rw [List.length_set]; exact hR0
  have lC0 : ∀ F a, (C0 F a).length = 23 := fun F a => by rw [hC0]; exact stC_len hR0
  have lCC : ∀ v F a, (CC v F a).length = 23 := fun v F a => by rw [hCC]; exact stC_len (hR1 v)
  have tC0 : ∀ F a, (C0 F a).take 23 = C0 F a := fun F a => List.take_of_length_le (by rw [lC0]; omega)
  have tCC : ∀ v F a, (CC v F a).take 23 = CC v F a := fun v F a => List.take_of_length_le (by rw [lCC]; omega)
  have oC0 : ∀ F a, (C0 F a).all AV.one = true := fun F a => by rw [hC0]; exact stC_one _
  have oCC : ∀ v F a, (CC v F a).all AV.one = true := fun v F a => by rw [hCC]; exact stC_one _
  have spZC : ∀ F a, spl Z 0 (C0 F a) = C0 F a := fun F a => spl_all _ _ (by rw [lC0]; omega)
  have spZCC : ∀ v F a, spl Z 0 (CC v F a) = CC v F a := fun v F a => spl_all _ _ (by rw [lCC]; omega)
  have spR : ∀ F a v, spl (C0 F a) i.dst.toNat [U v] = CC v F a := fun F a v => by rw [hC0, hCC]; exact stC_reg (s := { t with f := F, at_ := a }) hR0 i.dst bd.1 bd.2 v
  have spRR : ∀ w F a v, spl (CC w F a) i.dst.toNat [U v] = CC v F a := fun w F a v => by
    rw [hCC, hCC]
    refine (stC_reg (s := { t with R := t.R.set i.dst.toNat w, f := F, at_ := a }) (hR1 w) i.dst bd.1 bd.2 v).trans ?_
    simp only [List.set_set]
  have spF : ∀ G a F, spl (C0 G a) 16 [Bo F.c, Bo F.z, Bo F.s, Bo F.o, Bo F.p] = C0 F a := fun G a F => by rw [hC0, hC0]; exact stC_f (s := { t with f := G, at_ := a }) hR0 F
  have spFF : ∀ v G a F, spl (CC v G a) 16 [Bo F.c, Bo F.z, Bo F.s, Bo F.o, Bo F.p] = CC v F a := fun v G a F => by rw [hCC, hCC]; exact stC_f (s := { t with R := t.R.set i.dst.toNat v, f := G, at_ := a }) (hR1 v) F
  have spA : ∀ G b a, spl (C0 G b) 21 [I a] = C0 G a := fun G b a => by rw [hC0, hC0]; exact stC_at (s := { t with f := G, at_ := b }) hR0 a
  have gCC : ∀ v F a, (CC v F a)[i.dst.toNat]? = some (U v) := fun v F a => by
    rw [hCC, stC_get (s := { t with R := t.R.set i.dst.toNat v, f := F, at_ := a }) (hR1 v) bd.1 bd.2]
    congr 2
    exact vgA_set _ _ _ bd.1 (by rw [hR0]; exact bd.2)
  have dst_ok : ∀ h : i.dst.toNat < 23, True := fun _ => trivial
  have hco' : co = C0 s.f (s.at_ + 1) := by rw [hC0, hco, ← tf, ← tat]
  rw [hco']
  clear hco hco' spo
  have d16 : sc.drop 16 = [Bo s.f.c, Bo s.f.z, Bo s.f.s, Bo s.f.o, Bo s.f.p, I s.at_, I s.steps] := by
    rw [hsc]; unfold stC
    rw [show (16 : Nat) = (Regs s.R).length by simp [hs.R], List.drop_left]
  have wv := hs.W i.dst
  have wc := hs.W i.src
  have tdiv : (vg s.R i.dst).tdiv 256 = vg s.R i.dst / 256 := Int.tdiv_eq_ediv_of_nonneg wv.1
  have wd0 : IntKind.u64.wrap (vg s.R i.dst / 256) = vg s.R i.dst / 256 := by
    have := wv.1
    have := wv.2
    rw [IntKind.wrap_u64]; omega
  have wdiv : IntKind.u64.wrap (vg s.R i.dst / 256 * 256) = andN8 (vg s.R i.dst) := by
    have := wv.1
    have := wv.2
    rw [IntKind.wrap_u64]; unfold andN8; omega
  have tmod : (vg s.R i.src).tmod 256 = low8 (vg s.R i.src) := by rw [Int.tmod_eq_emod_of_nonneg wc.1, low8_eq wc]
  have wor : IntKind.u64.wrap (andN8 (vg s.R i.dst) + 1) = orU (andN8 (vg s.R i.dst)) 1 := by
    rw [or_one wv, IntKind.wrap_u64]
    have := wv.1
    have := wv.2
    unfold andN8
    omega
  have leafN : ∀ (t' : Mst) cs, S = (t', 0) → t'.b = s.b → t'.seen = [] → cs = stC t' → Tidy M (WeakE (fun e M' => e = .ret (.tup [.agg (stC S.1), Se.sl S.1.seen, I S.2]) ∧ M' = M.set kb (rowY S.1.b))) (.ret (.tup [.agg cs, .v (.slice none 0 0), I 0])) (NF s.b sc cs [.box 56 ic, .box 28 cs]) := fun t' cs h1 h2 h3 h4 => by
    have lf := leaf ([.box 28 sc, .box 28 cs, .box 56 ic, .box 28 cs]) nilS
    rw [h1] at lf ⊢
    simp only at lf ⊢
    rw [h2, ← h4] at lf
    rw [h2, ← h4]
    have lf2 := lf (by rw [h3]; exact .nil 3) rfl
    rw [hNF]
    exact lf2
  have leafS : ∀ (t' : Mst) cs (q : Se) (x : Int), S = (t', x) → t'.seen = [q] → cs = stC t' → ∀ L, Tidy M (WeakE (fun e M' => e = .ret (.tup [.agg (stC S.1), Se.sl S.1.seen, I S.2]) ∧ M' = M.set kb (rowY S.1.b))) (.ret (.tup [.agg cs, .vs 3 [[Bo q.jump, Bo q.taken, U q.addr]], I x])) (M.set kb (rowY t'.b) ++ L) := fun t' cs q x h1 h3 h4 L => by
    have lf := leaf L (.vs 3 [[Bo q.jump, Bo q.taken, U q.addr]])
    rw [h1] at lf ⊢
    simp only at lf ⊢
    rw [← h4] at lf
    rw [← h4]
    exact lf (by rw [h3]; exact .refl _) rfl
  have leafE : ∀ (cs : List AV) (q : Se) (x : Int) c2, deedM lay l i t = ({ t with seen := [q] }, x) → x ≠ 0 → cs = stC { s with steps := s.steps + 1 } → Tidy M (WeakE (fun e M' => e = .ret (.tup [.agg (stC S.1), Se.sl S.1.seen, I S.2]) ∧ M' = M.set kb (rowY S.1.b))) (.ret (.tup [.agg cs, .vs 3 [[Bo q.jump, Bo q.taken, U q.addr]], I x])) (NF s.b cs cs [.box 56 ic, .box 28 c2]) := fun cs q x c2 hd hx h4 => by
    have e1 : IntKind.i64.wrap (t.at_ - 1) = s.at_ := by rw [tat, show s.at_ + 1 - 1 = s.at_ by omega, IntKind.wrap_i64]; omega
    have hS2 : S = ({ t with seen := [q], at_ := s.at_ }, x) := by rw [hSi, hd, if_neg hx]; simp only [e1]
    rw [hNF, ← tb]
    exact leafS { t with seen := [q], at_ := s.at_ } cs q x hS2 rfl (by rw [h4]; unfold stC; rw [tR, tf, tst]) _
  have whe : i.op = 17 ∨ i.op = 18 → whA l i.label 0 = ((Lm.labsA l 0).lookup i.label).getD 0 := fun h => by
    have w := wh_look i.label l 0
    rw [show ((0 : Nat) : Int) = 0 from rfl] at w
    rw [w]
    have := hm
    unfold Lm.mayA at this
    simp only [Bool.and_eq_true, List.all_eq_true, Lm.goodA] at this
    have h2 := (this.2 i hmem).2
    have h3 : (i.op == 17 || i.op == 18) = true := by simp [h]
    rw [h3] at h2
    simp only [Bool.not_true, Bool.false_or, decide_eq_true_eq] at h2
    cases hk : (Lm.labsA l 0).lookup i.label with
    | none => exact absurd h2 (Lm.lookup_none.1 hk)
    | some x => rfl
  have leafR : ∀ (t' : Mst) cs c1 c2 (b' : List Int) (q : Se), deedM lay l i t = (t', 0) → t'.seen = [q] → t'.b = b' → cs = stC t' → Tidy M (WeakE (fun e M' => e = .ret (.tup [.agg (stC S.1), Se.sl S.1.seen, I S.2]) ∧ M' = M.set kb (rowY S.1.b))) (.ret (.tup [.agg cs, .vs 3 [[Bo q.jump, Bo q.taken, U q.addr]], I 0])) (NF b' c1 cs [.box 56 ic, .box 28 c2]) := fun t' cs c1 c2 b' q hd h1 h2 h3 => by
    rw [hNF, ← h2]
    exact leafS t' cs q 0 (by rw [hSi, hd, if_pos rfl]) h1 h3 _
  have leafCC : ∀ V F A, deedM lay l i t = ({ t with R := t.R.set i.dst.toNat V, f := F, at_ := A }, 0) → Tidy M (WeakE (fun e M' => e = .ret (.tup [.agg (stC S.1), Se.sl S.1.seen, I S.2]) ∧ M' = M.set kb (rowY S.1.b))) (.ret (.tup [.agg (CC V F A), .v (.slice none 0 0), I 0])) (NF s.b sc (CC V F A) [.box 56 ic, .box 28 (CC V F A)]) := fun V F A hd => by
    refine leafN { t with R := t.R.set i.dst.toNat V, f := F, at_ := A } _ (by rw [hSi, hd, if_pos rfl]) tb ts (hCC _ _ _)
  have leafC0 : ∀ F A, deedM lay l i t = ({ t with f := F, at_ := A }, 0) → Tidy M (WeakE (fun e M' => e = .ret (.tup [.agg (stC S.1), Se.sl S.1.seen, I S.2]) ∧ M' = M.set kb (rowY S.1.b))) (.ret (.tup [.agg (C0 F A), .v (.slice none 0 0), I 0])) (NF s.b sc (C0 F A) [.box 56 ic, .box 28 (C0 F A)]) := fun F A hd => by
    refine leafN { t with f := F, at_ := A } _ (by rw [hSi, hd, if_pos rfl]) tb ts (hC0 _ _)
  have teta : ({ t with f := s.f, at_ := s.at_ + 1 } : Mst) = t := by rw [← tf, ← tat]
  obtain ⟨c3, hc3⟩ : ∃ c, c = stC { s with steps := s.steps + 1 } := ⟨_, rfl⟩
  have sp3 : spl sc 22 [I (s.steps + 1)] = c3 := by rw [hsc, hc3]; exact stC_steps hs.R _
  have l3 : c3.length = 23 := by rw [hc3]; exact stC_len hs.R
  have t3 : c3.take 23 = c3 := List.take_of_length_le (by omega)
  have o3 : c3.all AV.one = true := by rw [hc3]; exact stC_one _
  have spZ3 : spl Z 0 c3 = c3 := spl_all _ _ (by omega)
  replace leafS := Hid.mk leafS
  replace leafR := Hid.mk leafR
  replace leafE := Hid.mk leafE
  replace leafCC := Hid.mk leafCC
  replace leafC0 := Hid.mk leafC0
  replace leafN := Hid.mk leafN
  obtain ⟨c3, hc3⟩ : ∃ c, c = stC { s with steps := s.steps + 1 } := ⟨_, rfl⟩
  have sp3 : spl sc 22 [I (s.steps + 1)] = c3 := by rw [hsc, hc3]; exact stC_steps hs.R _
  have l3 : c3.length = 23 := by rw [hc3]; exact stC_len hs.R
  have t3 : c3.take 23 = c3 := List.take_of_length_le (by omega)
  have o3 : c3.all AV.one = true := by rw [hc3]; exact stC_one _
  have spZ3 : spl Z 0 c3 = c3 := spl_all _ _ (by omega)
  replace leafS := Hid.mk leafS
  have hop := ir.op
  have c : i.op = 1 ∨ i.op = 2 ∨ i.op = 3 ∨ i.op = 4 ∨ i.op = 5 ∨ i.op = 6 ∨ i.op = 7 ∨ i.op = 8 ∨ i.op = 9 ∨ i.op = 10 ∨ i.op = 11 ∨ i.op = 12 ∨ i.op = 13 ∨ i.op = 14 ∨ i.op = 15 ∨ i.op = 16 ∨ i.op = 17 ∨ i.op = 18 := by omega
  clear hu0 frzS ryu leaf hgi hmem hgl hmo hic' ion gi hi0 hg0 h19 h20 g9 spa la ta oa spZa dca in0 hnat hll d21 wat spZ
  refine awp_all (hn := fun _ => false) (od := fun _ => none) (by kernel_rfl) ?_
  rcases c with c | c | c | c | c | c | c | c | c | c | c | c | c | c | c | c | c | c
  · skip
    rw [c] at ge
    simp -dsimp [f0, f2, f4, f6, f9, f10, f11, f12, f13, g4, g6, s6, g10, s10, ge, d16, gd, gs, bd, bs, hsl, spR, spRR, spF, spFF, spA, lC0, lCC, tC0, tCC, oC0, oCC, hZl, spZC, spZCC, gCC, d22', s22', tdiv, wd0, wdiv, tmod, wor, tsc, osc]
    exact leafCC.out _ _ _ (by unfold deedM; simp [c, tR, tf, tat])
  · skip
    rw [c] at ge
    simp -dsimp [f0, f2, f4, f6, f9, f10, f11, f12, f13, g4, g6, s6, g10, s10, ge, d16, gd, gs, bd, bs, hsl, spR, spRR, spF, spFF, spA, lC0, lCC, tC0, tCC, oC0, oCC, hZl, spZC, spZCC, gCC, d22', s22', tdiv, wd0, wdiv, tmod, wor, tsc, osc]
    exact leafCC.out _ _ _ (by unfold deedM; simp [c, tR, tf, tat])
  · skip
    rw [c] at ge
    have cl := rload_ok (refN sc Z [.box 56 ic, .box 28 (C0 s.f (s.at_ + 1))]) hby hl ho ad wad.1 wad.2
    obtain ⟨e, he⟩ : ∃ e, e = askE lay ad := ⟨_, rfl⟩
    rw [← he] at cl
    simp -dsimp [f0, f2, f4, f6, f9, f10, f11, f12, f13, g4, g6, s6, g10, s10, ge, d16, gd, gs, bd, bs, hsl, spR, spRR, spF, spFF, spA, lC0, lCC, tC0, tCC, oC0, oCC, hZl, spZC, spZCC, gCC, d22', s22', tdiv, wd0, wdiv, tmod, wor, tsc, osc]
    refine acallsW_det cl ?_
    by_cases e0 : e = 0
    · rw [if_pos e0, e0]
      simp -dsimp [f0, f2, f4, f6, f9, f10, f11, f12, f13, g4, g6, s6, g10, s10, ge, d16, gd, gs, bd, bs, hsl, spR, spRR, spF, spFF, spA, lC0, lCC, tC0, tCC, oC0, oCC, hZl, spZC, spZCC, gCC, d22', s22', tdiv, wd0, wdiv, tmod, wor, tsc, osc]
      exact leafR.out { t with seen := [⟨false, false, ad⟩], R := t.R.set i.dst.toNat (getW s.b ad.toNat) } _ _ _ _ ⟨false, false, ad⟩ (by unfold deedM loadM; simp [c, tR, ← had, ← he, e0, ts, tb]) rfl tb (by rw [hCC]; exact stC_ext rfl tf.symm tat.symm rfl)
    · rw [if_neg e0]
      have e1 : (e != 0) = true := by simp [e0]
      simp -dsimp [f0, f2, f4, f6, f9, f10, f11, f12, f13, g4, g6, s6, g10, s10, ge, d16, gd, gs, bd, bs, hsl, spR, spRR, spF, spFF, spA, lC0, lCC, tC0, tCC, oC0, oCC, hZl, spZC, spZCC, gCC, d22', s22', tdiv, wd0, wdiv, tmod, wor, tsc, osc, e1, d22, wst, s4, sp3, l3, t3, o3, spZ3]
      exact leafE.out c3 ⟨false, false, ad⟩ e _ (by unfold deedM loadM; simp [c, tR, ← had, ← he, e0, ts]) e0 hc3
  · skip
    rw [c] at ge
    have cl := rstore_ok (refN sc Z [.box 56 ic, .box 28 (C0 s.f (s.at_ + 1))]) hl ho ad wad.1 wad.2 (vg s.R i.src)
    rw [sK] at cl
    obtain ⟨e, he⟩ : ∃ e, e = askE lay ad := ⟨_, rfl⟩
    rw [← he] at cl
    simp -dsimp [f0, f2, f4, f6, f9, f10, f11, f12, f13, g4, g6, s6, g10, s10, ge, d16, gd, gs, bd, bs, hsl, spR, spRR, spF, spFF, spA, lC0, lCC, tC0, tCC, oC0, oCC, hZl, spZC, spZCC, gCC, d22', s22', tdiv, wd0, wdiv, tmod, wor, tsc, osc]
    refine acallsW_of cl ?_
    rintro e_ _ ⟨rfl, rfl⟩
    by_cases e0 : e = 0
    · rw [if_pos e0, e0]
      simp -dsimp [f0, f2, f4, f6, f9, f10, f11, f12, f13, g4, g6, s6, g10, s10, ge, d16, gd, gs, bd, bs, hsl, spR, spRR, spF, spFF, spA, lC0, lCC, tC0, tCC, oC0, oCC, hZl, spZC, spZCC, gCC, d22', s22', tdiv, wd0, wdiv, tmod, wor, tsc, osc]
      exact leafR.out { t with seen := [⟨false, false, ad⟩], b := putW s.b ad.toNat (vg s.R i.src) } _ _ _ _ ⟨false, false, ad⟩ (by unfold deedM storeM; simp [c, tR, ← had, ← he, e0, ts, tb]) rfl rfl (by rw [hC0]; exact stC_ext rfl tf.symm tat.symm rfl)
    · rw [if_neg e0]
      have e1 : (e != 0) = true := by simp [e0]
      simp -dsimp [f0, f2, f4, f6, f9, f10, f11, f12, f13, g4, g6, s6, g10, s10, ge, d16, gd, gs, bd, bs, hsl, spR, spRR, spF, spFF, spA, lC0, lCC, tC0, tCC, oC0, oCC, hZl, spZC, spZCC, gCC, d22', s22', tdiv, wd0, wdiv, tmod, wor, tsc, osc, e1, d22, wst, s4, sp3, l3, t3, o3, spZ3]
      exact leafE.out c3 ⟨false, false, ad⟩ e _ (by unfold deedM storeM; simp [c, tR, ← had, ← he, e0, ts]) e0 hc3
  · skip
    rw [c] at ge
    have cl := fun H => rdo_ok i.bin (ir.bin (by omega)) (vg s.R i.dst) (vg s.R i.src) wv wc s.f H
    simp only [Fl.cells] at cl
    simp -dsimp [f0, f2, f4, f6, f9, f10, f11, f12, f13, g4, g6, s6, g10, s10, ge, d16, gd, gs, bd, bs, hsl, spR, spRR, spF, spFF, spA, lC0, lCC, tC0, tCC, oC0, oCC, hZl, spZC, spZCC, gCC, d22', s22', tdiv, wd0, wdiv, tmod, wor, tsc, osc]
    first | refine acallsW_det (cl _) ?_ | refine callDW_intro (cl _) ?_
    simp -dsimp [f0, f2, f4, f6, f9, f10, f11, f12, f13, g4, g6, s6, g10, s10, ge, d16, gd, gs, bd, bs, hsl, spR, spRR, spF, spFF, spA, lC0, lCC, tC0, tCC, oC0, oCC, hZl, spZC, spZCC, gCC, d22', s22', tdiv, wd0, wdiv, tmod, wor, tsc, osc]
    exact leafCC.out _ _ _ (by unfold deedM; simp [binM, binOp, binY, c, tR, tf, tat])
  · skip
    rw [c] at ge
    have cl := fun H => rdo_ok i.bin (ir.bin (by omega)) (vg s.R i.dst) i.imm wv hiw s.f H
    simp only [Fl.cells] at cl
    simp -dsimp [f0, f2, f4, f6, f9, f10, f11, f12, f13, g4, g6, s6, g10, s10, ge, d16, gd, gs, bd, bs, hsl, spR, spRR, spF, spFF, spA, lC0, lCC, tC0, tCC, oC0, oCC, hZl, spZC, spZCC, gCC, d22', s22', tdiv, wd0, wdiv, tmod, wor, tsc, osc]
    first | refine acallsW_det (cl _) ?_ | refine callDW_intro (cl _) ?_
    simp -dsimp [f0, f2, f4, f6, f9, f10, f11, f12, f13, g4, g6, s6, g10, s10, ge, d16, gd, gs, bd, bs, hsl, spR, spRR, spF, spFF, spA, lC0, lCC, tC0, tCC, oC0, oCC, hZl, spZC, spZCC, gCC, d22', s22', tdiv, wd0, wdiv, tmod, wor, tsc, osc]
    exact leafCC.out _ _ _ (by unfold deedM; simp [binM, binOp, binY, c, tR, tf, tat])
  · skip
    rw [c] at ge
    have cl := fun H => rshift_ok i.shift (ir.shift (by omega)) (vg s.R i.dst) (vg s.R 1) wv (hs.W 1) s.f H
    simp only [Fl.cells] at cl
    have g1 : sc[1]? = some (U (vg s.R 1)) := by rw [hsc]; exact stC_get (i := 1) hs.R (by decide) (by decide)
    have g1 : ∀ h : 1 < sc.length, sc[1]'h = U (vg s.R 1) := fun h => by rw [List.getElem?_eq_getElem h] at g1; exact Option.some.inj g1
    simp -dsimp [f0, f2, f4, f6, f9, f10, f11, f12, f13, g4, g6, s6, g10, s10, ge, d16, gd, gs, bd, bs, hsl, spR, spRR, spF, spFF, spA, lC0, lCC, tC0, tCC, oC0, oCC, hZl, spZC, spZCC, gCC, d22', s22', tdiv, wd0, wdiv, tmod, wor, tsc, osc, g1]
    first | refine acallsW_det (cl _) ?_ | refine callDW_intro (cl _) ?_
    simp -dsimp [f0, f2, f4, f6, f9, f10, f11, f12, f13, g4, g6, s6, g10, s10, ge, d16, gd, gs, bd, bs, hsl, spR, spRR, spF, spFF, spA, lC0, lCC, tC0, tCC, oC0, oCC, hZl, spZC, spZCC, gCC, d22', s22', tdiv, wd0, wdiv, tmod, wor, tsc, osc, g1]
    exact leafCC.out _ _ _ (by unfold deedM; simp [shiftM, shN, c, tR, tf, tat])
  · skip
    rw [c] at ge
    have cl := fun H => rshift_ok i.shift (ir.shift (by omega)) (vg s.R i.dst) i.imm wv hiw s.f H
    simp only [Fl.cells] at cl
    simp -dsimp [f0, f2, f4, f6, f9, f10, f11, f12, f13, g4, g6, s6, g10, s10, ge, d16, gd, gs, bd, bs, hsl, spR, spRR, spF, spFF, spA, lC0, lCC, tC0, tCC, oC0, oCC, hZl, spZC, spZCC, gCC, d22', s22', tdiv, wd0, wdiv, tmod, wor, tsc, osc]
    first | refine acallsW_det (cl _) ?_ | refine callDW_intro (cl _) ?_
    simp -dsimp [f0, f2, f4, f6, f9, f10, f11, f12, f13, g4, g6, s6, g10, s10, ge, d16, gd, gs, bd, bs, hsl, spR, spRR, spF, spFF, spA, lC0, lCC, tC0, tCC, oC0, oCC, hZl, spZC, spZCC, gCC, d22', s22', tdiv, wd0, wdiv, tmod, wor, tsc, osc]
    exact leafCC.out _ _ _ (by unfold deedM; simp [shiftM, shN, c, tR, tf, tat])
  · skip
    rw [c] at ge
    simp -dsimp [f0, f2, f4, f6, f9, f10, f11, f12, f13, g4, g6, s6, g10, s10, ge, d16, gd, gs, bd, bs, hsl, spR, spRR, spF, spFF, spA, lC0, lCC, tC0, tCC, oC0, oCC, hZl, spZC, spZCC, gCC, d22', s22', tdiv, wd0, wdiv, tmod, wor, tsc, osc, unx]
    exact leafCC.out _ _ _ (by unfold deedM; simp [c, tR, tf, tat])
  · skip
    rw [c] at ge
    have cl := fun H => rdo_ok 3 (by omega) 0 (vg s.R i.dst) (by constructor <;> decide) wv ⟨false, false, false, false, false⟩ H
    simp only [Fl.cells] at cl
    simp -dsimp [f0, f2, f4, f6, f9, f10, f11, f12, f13, g4, g6, s6, g10, s10, ge, d16, gd, gs, bd, bs, hsl, spR, spRR, spF, spFF, spA, lC0, lCC, tC0, tCC, oC0, oCC, hZl, spZC, spZCC, gCC, d22', s22', tdiv, wd0, wdiv, tmod, wor, tsc, osc]
    first | refine acallsW_det (cl _) ?_ | refine callDW_intro (cl _) ?_
    simp -dsimp [f0, f2, f4, f6, f9, f10, f11, f12, f13, g4, g6, s6, g10, s10, ge, d16, gd, gs, bd, bs, hsl, spR, spRR, spF, spFF, spA, lC0, lCC, tC0, tCC, oC0, oCC, hZl, spZC, spZCC, gCC, d22', s22', tdiv, wd0, wdiv, tmod, wor, tsc, osc]
    exact leafCC.out _ _ _ (by unfold deedM; simp [negM, c, tR, tf, tat])
  · skip
    rw [c] at ge
    have cl := fun H => rdo_ok 3 (by omega) (vg s.R i.dst) (vg s.R i.src) wv wc s.f H
    simp only [Fl.cells] at cl
    simp -dsimp [f0, f2, f4, f6, f9, f10, f11, f12, f13, g4, g6, s6, g10, s10, ge, d16, gd, gs, bd, bs, hsl, spR, spRR, spF, spFF, spA, lC0, lCC, tC0, tCC, oC0, oCC, hZl, spZC, spZCC, gCC, d22', s22', tdiv, wd0, wdiv, tmod, wor, tsc, osc]
    first | refine acallsW_det (cl _) ?_ | refine callDW_intro (cl _) ?_
    simp -dsimp [f0, f2, f4, f6, f9, f10, f11, f12, f13, g4, g6, s6, g10, s10, ge, d16, gd, gs, bd, bs, hsl, spR, spRR, spF, spFF, spA, lC0, lCC, tC0, tCC, oC0, oCC, hZl, spZC, spZCC, gCC, d22', s22', tdiv, wd0, wdiv, tmod, wor, tsc, osc]
    exact leafC0.out _ _ (by unfold deedM; simp [binM, binOp, binY, c, tR, tf, tat])
  · skip
    rw [c] at ge
    have cl := fun H => rdo_ok 5 (by omega) (vg s.R i.dst) (vg s.R i.src) wv wc s.f H
    simp only [Fl.cells] at cl
    simp -dsimp [f0, f2, f4, f6, f9, f10, f11, f12, f13, g4, g6, s6, g10, s10, ge, d16, gd, gs, bd, bs, hsl, spR, spRR, spF, spFF, spA, lC0, lCC, tC0, tCC, oC0, oCC, hZl, spZC, spZCC, gCC, d22', s22', tdiv, wd0, wdiv, tmod, wor, tsc, osc]
    first | refine acallsW_det (cl _) ?_ | refine callDW_intro (cl _) ?_
    simp -dsimp [f0, f2, f4, f6, f9, f10, f11, f12, f13, g4, g6, s6, g10, s10, ge, d16, gd, gs, bd, bs, hsl, spR, spRR, spF, spFF, spA, lC0, lCC, tC0, tCC, oC0, oCC, hZl, spZC, spZCC, gCC, d22', s22', tdiv, wd0, wdiv, tmod, wor, tsc, osc]
    exact leafC0.out _ _ (by unfold deedM; simp [binM, binOp, binY, c, tR, tf, tat])
  · skip
    rw [c] at ge
    have cl := fun H => rdo_ok 3 (by omega) (vg s.R i.dst) i.imm wv hiw s.f H
    simp only [Fl.cells] at cl
    simp -dsimp [f0, f2, f4, f6, f9, f10, f11, f12, f13, g4, g6, s6, g10, s10, ge, d16, gd, gs, bd, bs, hsl, spR, spRR, spF, spFF, spA, lC0, lCC, tC0, tCC, oC0, oCC, hZl, spZC, spZCC, gCC, d22', s22', tdiv, wd0, wdiv, tmod, wor, tsc, osc]
    first | refine acallsW_det (cl _) ?_ | refine callDW_intro (cl _) ?_
    simp -dsimp [f0, f2, f4, f6, f9, f10, f11, f12, f13, g4, g6, s6, g10, s10, ge, d16, gd, gs, bd, bs, hsl, spR, spRR, spF, spFF, spA, lC0, lCC, tC0, tCC, oC0, oCC, hZl, spZC, spZCC, gCC, d22', s22', tdiv, wd0, wdiv, tmod, wor, tsc, osc]
    exact leafC0.out _ _ (by unfold deedM; simp [binM, binOp, binY, c, tR, tf, tat])
  · skip
    rw [c] at ge
    have cl := fun H => rholds_ok i.cond ir.cond s.f H
    simp only [Fl.cells] at cl
    obtain ⟨b, hb⟩ : ∃ b, b = holdsB i.cond s.f := ⟨_, rfl⟩
    rw [← hb] at cl
    simp -dsimp [f0, f2, f4, f6, f9, f10, f11, f12, f13, g4, g6, s6, g10, s10, ge, d16, gd, gs, bd, bs, hsl, spR, spRR, spF, spFF, spA, lC0, lCC, tC0, tCC, oC0, oCC, hZl, spZC, spZCC, gCC, d22', s22', tdiv, wd0, wdiv, tmod, wor, tsc, osc]
    first | refine acallsW_det (cl _) ?_ | refine callDW_intro (cl _) ?_
    cases b
    · simp -dsimp [f0, f2, f4, f6, f9, f10, f11, f12, f13, g4, g6, s6, g10, s10, ge, d16, gd, gs, bd, bs, hsl, spR, spRR, spF, spFF, spA, lC0, lCC, tC0, tCC, oC0, oCC, hZl, spZC, spZCC, gCC, d22', s22', tdiv, wd0, wdiv, tmod, wor, tsc, osc]
      exact leafCC.out _ _ _ (by unfold deedM; simp [condM, ← hb, c, tR, tf, tat])
    · simp -dsimp [f0, f2, f4, f6, f9, f10, f11, f12, f13, g4, g6, s6, g10, s10, ge, d16, gd, gs, bd, bs, hsl, spR, spRR, spF, spFF, spA, lC0, lCC, tC0, tCC, oC0, oCC, hZl, spZC, spZCC, gCC, d22', s22', tdiv, wd0, wdiv, tmod, wor, tsc, osc]
      exact leafCC.out _ _ _ (by unfold deedM; simp [condM, ← hb, c, tR, tf, tat])
  · skip
    rw [c] at ge
    simp -dsimp [f0, f2, f4, f6, f9, f10, f11, f12, f13, g4, g6, s6, g10, s10, ge, d16, gd, gs, bd, bs, hsl, spR, spRR, spF, spFF, spA, lC0, lCC, tC0, tCC, oC0, oCC, hZl, spZC, spZCC, gCC, d22', s22', tdiv, wd0, wdiv, tmod, wor, tsc, osc]
    exact leafCC.out _ _ _ (by unfold deedM; simp [c, tR, tf, tat])
  · skip
    rw [c] at ge
    have cl := fun H => rholds_ok i.cond ir.cond s.f H
    simp only [Fl.cells] at cl
    obtain ⟨b, hb⟩ : ∃ b, b = holdsB i.cond s.f := ⟨_, rfl⟩
    rw [← hb] at cl
    simp -dsimp [f0, f2, f4, f6, f9, f10, f11, f12, f13, g4, g6, s6, g10, s10, ge, d16, gd, gs, bd, bs, hsl, spR, spRR, spF, spFF, spA, lC0, lCC, tC0, tCC, oC0, oCC, hZl, spZC, spZCC, gCC, d22', s22', tdiv, wd0, wdiv, tmod, wor, tsc, osc]
    first | refine acallsW_det (cl _) ?_ | refine callDW_intro (cl _) ?_
    cases b
    · simp -dsimp [f0, f2, f4, f6, f9, f10, f11, f12, f13, g4, g6, s6, g10, s10, ge, d16, gd, gs, bd, bs, hsl, spR, spRR, spF, spFF, spA, lC0, lCC, tC0, tCC, oC0, oCC, hZl, spZC, spZCC, gCC, d22', s22', tdiv, wd0, wdiv, tmod, wor, tsc, osc]
      exact leafC0.out s.f (s.at_ + 1) (by rw [teta]; unfold deedM condM; simp [c, tf, ← hb])
    · simp -dsimp [f0, f2, f4, f6, f9, f10, f11, f12, f13, g4, g6, s6, g10, s10, ge, d16, gd, gs, bd, bs, hsl, spR, spRR, spF, spFF, spA, lC0, lCC, tC0, tCC, oC0, oCC, hZl, spZC, spZCC, gCC, d22', s22', tdiv, wd0, wdiv, tmod, wor, tsc, osc]
      exact leafCC.out _ _ _ (by unfold deedM; simp [condM, ← hb, c, tR, tf, tat])
  · skip
    rw [c] at ge
    have cl := fun H => rwhere19_ok l hle i.label H
    rw [whe (by omega)] at cl
    simp -dsimp [f0, f2, f4, f6, f9, f10, f11, f12, f13, g4, g6, s6, g10, s10, ge, d16, gd, gs, bd, bs, hsl, spR, spRR, spF, spFF, spA, lC0, lCC, tC0, tCC, oC0, oCC, hZl, spZC, spZCC, gCC, d22', s22', tdiv, wd0, wdiv, tmod, wor, tsc, osc]
    refine acallsW_det (cl _) ?_
    simp -dsimp [f0, f2, f4, f6, f9, f10, f11, f12, f13, g4, g6, s6, g10, s10, ge, d16, gd, gs, bd, bs, hsl, spR, spRR, spF, spFF, spA, lC0, lCC, tC0, tCC, oC0, oCC, hZl, spZC, spZCC, gCC, d22', s22', tdiv, wd0, wdiv, tmod, wor, tsc, osc]
    exact leafC0.out _ _ (by unfold deedM; simp [jumpM, c, tR, tf, tat])
  · skip
    rw [c] at ge
    have cl := fun H => rwhere19_ok l hle i.label H
    rw [whe (by omega)] at cl
    have ch := fun H => rholds_ok i.cond ir.cond s.f H
    simp only [Fl.cells] at ch
    obtain ⟨b, hb⟩ : ∃ b, b = holdsB i.cond s.f := ⟨_, rfl⟩
    rw [← hb] at ch
    simp -dsimp [f0, f2, f4, f6, f9, f10, f11, f12, f13, g4, g6, s6, g10, s10, ge, d16, gd, gs, bd, bs, hsl, spR, spRR, spF, spFF, spA, lC0, lCC, tC0, tCC, oC0, oCC, hZl, spZC, spZCC, gCC, d22', s22', tdiv, wd0, wdiv, tmod, wor, tsc, osc]
    refine acallsW_det (ch _) ?_
    cases b
    · simp -dsimp [f0, f2, f4, f6, f9, f10, f11, f12, f13, g4, g6, s6, g10, s10, ge, d16, gd, gs, bd, bs, hsl, spR, spRR, spF, spFF, spA, lC0, lCC, tC0, tCC, oC0, oCC, hZl, spZC, spZCC, gCC, d22', s22', tdiv, wd0, wdiv, tmod, wor, tsc, osc]
      exact leafR.out { t with seen := [⟨true, false, 0⟩] } _ _ _ _ ⟨true, false, 0⟩ (by unfold deedM jumpM; simp [c, tf, ← hb, ts]) rfl tb (by rw [hC0]; exact stC_ext rfl tf.symm tat.symm rfl)
    · simp -dsimp [f0, f2, f4, f6, f9, f10, f11, f12, f13, g4, g6, s6, g10, s10, ge, d16, gd, gs, bd, bs, hsl, spR, spRR, spF, spFF, spA, lC0, lCC, tC0, tCC, oC0, oCC, hZl, spZC, spZCC, gCC, d22', s22', tdiv, wd0, wdiv, tmod, wor, tsc, osc]
      refine acallsW_det (cl _) ?_
      simp -dsimp [f0, f2, f4, f6, f9, f10, f11, f12, f13, g4, g6, s6, g10, s10, ge, d16, gd, gs, bd, bs, hsl, spR, spRR, spF, spFF, spA, lC0, lCC, tC0, tCC, oC0, oCC, hZl, spZC, spZCC, gCC, d22', s22', tdiv, wd0, wdiv, tmod, wor, tsc, osc]
      exact leafR.out { t with seen := [⟨true, true, 0⟩], at_ := ((Lm.labsA l 0).lookup i.label).getD 0 } _ _ _ _ ⟨true, true, 0⟩ (by unfold deedM jumpM; simp [c, tf, ← hb, ts]) rfl tb (by rw [hC0]; exact stC_ext rfl tf.symm rfl rfl)
end Go.Proofs
