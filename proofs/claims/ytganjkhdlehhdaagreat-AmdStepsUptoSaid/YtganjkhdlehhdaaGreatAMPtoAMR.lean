/- A single step. -/
import Derived.Test.YtganjkhdlehhdaaGreatFwJmptoAMG
import Derived.Test.YtganjkhdlehhdaaGreatFwUtoFwBox
import Derived.Test.YtganjkhdlehhdaaGreatFS9toAMQ
import Derived.Test.YtganjkhdlehhdaaGreatKN41toAMJ
set_option linter.unusedVariables false
set_option linter.unusedSimpArgs false
set_option maxHeartbeats 4000000
set_option maxRecDepth 100000
namespace Go.Proofs
open Go.Mu
def stOd (i : Nat) : Option OPlan := if i = 8 then some [(0, []), (1, []), (2, []), (3, []), (4, []), (5, []), (6, []), (7, []), (8, []), (9, [5, 6, 7]), (10, []), (11, [])] else none
theorem astep_run (l : List Amd) (hm : Lm.mayA l = true) (hr : ∀ i ∈ l, Wd i.imm) (s : Mst) (hs : MsR s) (hsn : s.seen = []) (h0 : 0 ≤ s.at_) (h1 : s.at_ ≤ l.length) (lay : List Rg) (hl : lay.length ≤ 16) (ho : ∀ r ∈ lay, r.Ok) {H : List Blk} {k kb : Nat} (m : MemAt H k kb lay s.b) :
    ACalls Tryz.prog 10 [Lm.Amd.sl l, .agg (stC s), .bp k 0] H (fun e M' => e = .ret (.tup [.agg (stC (stepM lay l s).1), Se.sl (stepM lay l s).1.seen, I (stepM lay l s).2]) ∧ M' = H.set kb (byB (stepM lay l s).1.b)) := by
  refine acalls_under fun hu0 _ => acalls_tidy (acalls_of_awp Tryz.func10 rfl (by kernel_rfl) ?_)
  obtain ⟨sc, hsc⟩ : ∃ sc, sc = stC s := ⟨_, rfl⟩
  have hsl : sc.length = 23 := by rw [hsc]; unfold stC; simp [hs.R]
  rw [← hsc]
  obtain ⟨Z, hZ⟩ : ∃ Z, Z = List.replicate 16 (U 0) ++ [Bo false, Bo false, Bo false, Bo false, Bo false, I 0, I 0] := ⟨_, rfl⟩
  refine awp_cut (fun _ => false) (fun _ => none) (fun f M => M = H ++ [.box 28 sc, .box 28 Z] ∧ f 0 = Lm.Amd.sl l ∧ f 2 = .bp k 0 ∧ f 4 = .bp H.length 0 ∧ f 6 = .bp (H.length + 1) 0) (by kernel_rfl) ?_ ?_
  · simp -dsimp [hsl]
    exact hZ.symm
  rintro f M ⟨hM, f0, f2, f4, f6⟩
  have mM : MemAt M k kb lay s.b := by rw [hM]; exact ⟨get_app_old m.me _, get_app_old m.bytes _, m.len⟩
  have nM : M.length = H.length + 2 := by rw [hM]; simp
  have cc := mcopy_ok mM hl
  have eM := fun k o => eqM k o
  refine awp_cut (fun _ => false) (fun _ => none) (fun f M' => M' = M ++ [byB s.b, meB lay M.length] ∧ f 0 = Lm.Amd.sl l ∧ f 2 = .bp k 0 ∧ f 4 = .bp H.length 0 ∧ f 6 = .bp (H.length + 1) 0) (by kernel_rfl) ?_ ?_
  · simp -dsimp [f0, f2, f4, f6]
    refine acallsW_of cc ?_
    rintro e _ ⟨rfl, rfl⟩
    simp -dsimp [f0, f2, f4, f6, eM]
  clear f0 f2 f4 f6 f
  rintro f M2 ⟨hM2, f0, f2, f4, f6⟩
  refine awp_spare 1 ?_
  have hll : l.length ≤ 1048576 := by
    have := hm
    unfold Lm.mayA at this
    simp only [Bool.and_eq_true, decide_eq_true_eq] at this
    exact this.1.1
  have hra : ∀ i ∈ l, AmdR i ∧ Wd i.imm := fun i hi => by
    have := hm
    unfold Lm.mayA at this
    simp only [Bool.and_eq_true, List.all_eq_true, Lm.goodA] at this
    exact ⟨mayOne_r (this.2 i hi).1, hr i hi⟩
  obtain ⟨M3, hM3⟩ : ∃ M3, M3 = M2 ++ List.replicate 1 Blk.pend := ⟨_, rfl⟩
  rw [← hM3]
  have co := Lm.open_ok l (by omega) M3
  rw [if_pos hm, hm] at co
  refine awp_cut (fun _ => false) (fun _ => none) (fun f M4 => (∃ b0 b1 C, M4 = M3 ++ ([b0, b1, .map (Lm.tabM (Lm.labsA l 0)), .box 137 [Lm.Amd.sl l, .hm (M3.length + 2)]] ++ C)) ∧ f 0 = Lm.Amd.sl l ∧ f 2 = .bp k 0 ∧ f 4 = .bp H.length 0 ∧ f 6 = .bp (H.length + 1) 0 ∧ f 9 = .bp (M3.length + 3) 0 ∧ f 10 = Bo true) (by kernel_rfl) ?_ ?_
  · simp -dsimp [f0, f2, f4, f6]
    refine acallsW_of co ?_
    rintro e _ ⟨t, C, rfl, rfl, ht⟩
    simp -dsimp [f0, f2, f4, f6]
    rw [ht rfl]
  clear f0 f2 f4 f6 f
  rintro f M4 ⟨⟨b0, b1, C, hM4⟩, f0, f2, f4, f6, f9, f10⟩
  have n2 : M2.length = H.length + 4 := by rw [hM2]; simp; omega
  have n3 : M3.length = H.length + 5 := by rw [hM3]; simp; omega
  have n4 : M4.length = H.length + 5 + (C.length + 4) := by rw [hM4]; simp; omega
  have g4 : M4[H.length]? = some (.box 28 sc) := by rw [hM4, hM3, hM2, hM]; simp
  have dn : decide (s.at_ < 0) = false := decide_eq_false (by omega)
  have dg : decide ((l.length : Int) < s.at_) = false := decide_eq_false (by omega)
  have d21 : sc.drop 21 = [I s.at_, I s.steps] := by
    rw [hsc]
    unfold stC
    rw [show (21 : Nat) = (Regs s.R).length + 5 by simp [hs.R], ← List.drop_drop, List.drop_left]
    rfl
  refine awp_cut (fun _ => false) (fun _ => none) (fun f M5 => M5 = M4 ∧ f 0 = Lm.Amd.sl l ∧ f 2 = .bp k 0 ∧ f 4 = .bp H.length 0 ∧ f 6 = .bp (H.length + 1) 0 ∧ f 9 = .bp (M3.length + 3) 0) (by kernel_rfl) ?_ ?_
  · simp -dsimp [f0, f2, f4, f6, f9, f10, g4, d21, dn, dg]
  clear f0 f2 f4 f6 f9 f10 f
  rintro f Mx ⟨hMx, f0, f2, f4, f6, f9⟩
  rw [hMx]
  clear hMx Mx
  refine awp_cut (fun _ => false) (fun _ => none) (fun f M6 => M6 = M4 ++ [macB M2.length (M3.length + 3) k s] ∧ f 6 = .bp (H.length + 1) 0 ∧ f 11 = .bp M4.length 0) (by kernel_rfl) ?_ ?_
  · have htk : List.take 23 sc = sc := List.take_of_length_le (by omega)
    have s23 : ∀ x, spl (sc ++ [AV.v (Value.pointer none), AV.v (Value.pointer none), AV.v (Value.slice none 0 0)]) 23 [x] = _ := fun x => spl_app hsl 0 x (by simp)
    have s24 : ∀ x y, spl (sc ++ [x, AV.v (Value.pointer none), AV.v (Value.slice none 0 0)]) 24 [y] = _ := fun x y => spl_app hsl 1 y (by simp)
    simp only [List.set_cons_succ, List.set_cons_zero] at s23 s24
    simp -dsimp [f0, f2, f4, f6, f9, g4, hsl, htk, s23, s24]
    rw [hsc]
    simp [macB, mcl, stC, hsn]
    exact (ownS_nil _).symm
  clear f0 f2 f4 f6 f9 f
  rintro f M5 ⟨hM5, f6, f11⟩
  have hkH := lt_of_get m.me
  have hbH := lt_of_get m.bytes
  have hkb : k ≠ kb := fun e => by
    have h1 := m.me
    have h2 := m.bytes
    rw [e, h2] at h1
    simp at h1
  obtain ⟨M6, hM6⟩ : ∃ M6, M6 = M5 ++ [.map deedMap] := ⟨_, rfl⟩
  have n5 : M5.length = M4.length + 1 := by rw [hM5]; simp
  have e6 : M6 = M4 ++ [macB M2.length (M3.length + 3) k s, .map deedMap] := by rw [hM6, hM5]; simp
  have e4 : M4 = H ++ ([.box 28 sc, .box 28 Z, byB s.b, meB lay M.length, .pend, b0, b1, .map (Lm.tabM (Lm.labsA l 0)), .box 137 [Lm.Amd.sl l, .hm (M3.length + 2)]] ++ C) := by rw [hM4, hM3, hM2, hM]; simp
  have at4 : ∀ {i : Nat} {x}, M4[i]? = some x → M6[i]? = some x := fun h => by rw [e6]; exact get_app_old h _
  have atH : ∀ (j : Nat) {x}, ([.box 28 sc, .box 28 Z, byB s.b, meB lay M.length, .pend, b0, b1, .map (Lm.tabM (Lm.labsA l 0)), .box 137 [Lm.Amd.sl l, .hm (M3.length + 2)]] ++ C)[j]? = some x → M6[H.length + j]? = some x := fun j x h => at4 (by rw [e4, List.getElem?_append_right (by omega), Nat.add_sub_cancel_left]; exact h)
  have oldH : ∀ {i : Nat} {x}, H[i]? = some x → M6[i]? = some x := fun h => at4 (by rw [e4]; exact get_app_old h _)
  obtain ⟨G, gg, hG0, hGd⟩ := GA.mk' (M := M6) (km := M4.length) (kp := M3.length + 3) (ka := M3.length + 2) (kme := k) (kb := kb) (ks := M2.length) (l := l) (lay := lay) (s0 := s)
    (by simp only [List.nodup_cons, List.mem_cons, List.not_mem_nil, or_false, not_or, not_false_eq_true, List.nodup_nil, and_true]; omega)
    (by rw [e6, List.getElem?_append_right (Nat.le_refl _), Nat.sub_self]; rfl)
    (by rw [show M3.length + 3 = H.length + 8 by omega]; exact atH 8 rfl)
    (by rw [show M3.length + 2 = H.length + 7 by omega]; exact atH 7 rfl)
    ⟨oldH m.me, oldH m.bytes, m.len⟩
    (by rw [n2, hsn]; exact atH 4 rfl)
  have hkd : M6[M5.length]? = some (.map deedMap) := by rw [hM6]; simp
  have hdn : M5.length ≠ M4.length ∧ M5.length ≠ kb ∧ M5.length ≠ M2.length := by omega
  have cs := astep_ok gg hl ho hll hra M5.length hkd hdn s hs h0 h1
  obtain ⟨S, hS⟩ : ∃ S, S = stepM lay l s := ⟨_, rfl⟩
  rw [← hS] at cs ⊢
  have hSR : S.1.R.length = 16 := by
    rw [hS]
    unfold stepM
    split
    · exact hs.R
    · split
      · exact hs.R
      · split
        · exact hs.R
        · split
          · rw [deed_R]; exact hs.R
          · show (deedM lay l _ _).1.R.length = 16
            rw [deed_R]; exact hs.R
  refine awp_cut (fun _ => false) (fun _ => none) (fun f M' => M' = G S.1 ∧ f 6 = .bp (H.length + 1) 0 ∧ f 11 = .bp M4.length 0 ∧ f 12 = I S.2) (by kernel_rfl) ?_ ?_
  · simp -dsimp [f6, f11]
    refine acallsW_of (deeds_ok _) ?_
    rintro e _ ⟨rfl, rfl⟩
    simp -dsimp [f6, f11]
    rw [← hM6, hG0]
    refine acallsW_of cs ?_
    rintro e _ ⟨rfl, rfl⟩
    simp -dsimp [f6, f11]
  clear f6 f11 f
  rintro f Mx ⟨hMx, f6, f11, f12⟩
  rw [hMx]
  clear hMx Mx cs hS hG0
  obtain ⟨q, e⟩ := S
  simp only at f12 hSR ⊢
  obtain ⟨T, hT⟩ : ∃ T, T = b0 :: b1 :: .map (Lm.tabM (Lm.labsA l 0)) :: .box 137 [Lm.Amd.sl l, .hm (M3.length + 2)] :: C := ⟨_, rfl⟩
  have hTl : T.length = C.length + 4 := by rw [hT]; simp
  obtain ⟨NF, hNF⟩ : ∃ NF : List AV → List Blk, ∀ Z', NF Z' = H.set kb (byB q.b) ++ [.box 28 sc, .box 28 Z', byB s.b, meB lay (H.length + 2)] := ⟨_, fun _ => rfl⟩
  have nNF : ∀ Z', (NF Z').length = H.length + 4 := fun Z' => by rw [hNF]; simp
  have hGN : G q = NF Z ++ (seB q.seen :: (T ++ [macB M2.length (M3.length + 3) k q, .map deedMap])) := by
    rw [hGd, n4, e6, e4, hNF, n2, nM]
    have q1 : H ++ ([.box 28 sc, .box 28 Z, byB s.b, meB lay (H.length + 2), .pend, b0, b1, .map (Lm.tabM (Lm.labsA l 0)), .box 137 [Lm.Amd.sl l, .hm (M3.length + 2)]] ++ C) ++ [macB (H.length + 4) (M3.length + 3) k s, .map deedMap] = H ++ (.box 28 sc :: .box 28 Z :: byB s.b :: meB lay (H.length + 2) :: .pend :: (T ++ [macB (H.length + 4) (M3.length + 3) k s, .map deedMap])) := by rw [hT]; simp
    rw [q1, List.set_append_right _ _ (by omega), Nat.add_sub_cancel_left, List.set_append_left _ _ hbH, List.set_append_right _ _ (by rw [List.length_set]; omega), List.length_set]
    rw [show H.length + 5 + (C.length + 4) - H.length = T.length + 1 + 1 + 1 + 1 + 1 by omega]
    simp only [List.set_cons_succ, List.set_cons_zero]
    rw [List.set_append_right _ _ (Nat.le_refl _), Nat.sub_self]
    simp
  have hsq : (stC q).length = 23 := by unfold stC; simp [hSR]
  have frzS : ∀ x : Mst, ∀ c ∈ stC x, AV.frzB c = true := fun x c hc => by
    unfold stC at hc
    simp only [List.mem_append, List.mem_map, List.mem_cons, List.not_mem_nil, or_false] at hc
    rcases hc with ⟨x, _, rfl⟩ | rfl | rfl | rfl | rfl | rfl | rfl | rfl <;> rfl
  have huN : underH (NF Z).length (NF Z) = true := by
    rw [nNF, hNF]
    refine underH_appF (n := H.length) (by omega) (underH_set hu0 (by_under _ _)) ?_
    intro x hx
    simp only [List.mem_cons, List.not_mem_nil, or_false] at hx
    rcases hx with rfl | rfl | rfl | rfl
    · rw [hsc]
      exact underL_frzB _ _ (frzS s)
    · rw [hZ]; rfl
    · exact by_under _ _
    · simp only [Blk.under, underL, Bool.and_true, Bool.and_eq_true, AV.under, decide_eq_true_eq]
      exact ⟨trivial, by omega⟩
  rw [hGN]
  refine awp_giveBox huN 0 3 78 (q.seen.map Se.cells) rfl (se_frzB _) (T.length + 1) 88 (mcl M2.length (M3.length + 3) k q) (stC q ++ [.bp (M3.length + 3) 0, .bp k 0] ++ [Se.sl q.seen]) (by rw [List.getElem?_cons_succ, List.getElem?_append_right (Nat.le_refl _), Nat.sub_self]; rfl) (by omega) (by rw [nNF, show H.length + 4 + 0 = M2.length by omega]; exact mac_weak _ _ _ _) ?_
  intro L' f' hf' hL'1 hmac _
  have f6' : f' 6 = .bp (H.length + 1) 0 := by rw [hf', f6]; exact frzS_bp _ _ _ _ _
  have f11' : f' 11 = .bp M4.length 0 := by rw [hf', f11]; exact frzS_bp _ _ _ _ _
  have f12' : f' 12 = I e := by rw [hf', f12]; exact frzS_v _ _ _ _
  obtain ⟨sq, hsqe⟩ : ∃ sq, sq = stC q := ⟨_, rfl⟩
  rw [← hsqe] at hmac hsq ⊢
  obtain ⟨mc, hmc⟩ : ∃ mc, mc = sq ++ [AV.bp (M3.length + 3) 0, .bp k 0] ++ [Se.sl q.seen] := ⟨_, rfl⟩
  have t23 : List.take 23 mc = sq := by rw [hmc, List.append_assoc, List.take_append_of_le_length (by omega), List.take_of_length_le (by omega)]
  have d25 : List.drop 25 mc = [Se.sl q.seen] := by rw [hmc, List.drop_append_of_le_length (by simp [hsq]), List.drop_eq_nil_of_le (by simp [hsq])]; rfl
  have l26 : mc.length = 26 := by rw [hmc]; simp [hsq]
  rw [← hmc] at hmac
  clear hmc
  have mac : ∀ Z', (NF Z' ++ L')[M4.length]? = some (.box 88 mc) := fun Z' => by
    rw [List.getElem?_append_right (by rw [nNF]; omega), nNF, show M4.length - (H.length + 4) = T.length + 1 by omega]; exact hmac
  have b6 : ∀ Z', (NF Z' ++ L')[H.length + 1]? = some (.box 28 Z') := fun Z' => by
    rw [hNF, List.append_assoc, List.getElem?_append_right (by rw [List.length_set]; omega), List.length_set, Nat.add_sub_cancel_left]; rfl
  have s6 : ∀ Z' Z'', (NF Z' ++ L').set (H.length + 1) (.box 28 Z'') = NF Z'' ++ L' := fun Z' Z'' => by
    rw [hNF, hNF, List.append_assoc, List.set_append_right _ _ (by rw [List.length_set]; omega), List.length_set, Nat.add_sub_cancel_left, List.append_assoc]; rfl
  have hZl : Z.length = 23 := by rw [hZ]; simp
  have one' : sq.all AV.one = true := List.all_eq_true.2 fun c hc => by
    rw [hsqe] at hc
    unfold stC at hc
    simp only [List.mem_append, List.mem_map, List.mem_cons, List.not_mem_nil, or_false] at hc
    rcases hc with ⟨x, _, rfl⟩ | rfl | rfl | rfl | rfl | rfl | rfl | rfl <;> rfl
  have one : ∀ c ∈ sq, AV.one c = true := List.all_eq_true.1 one'
  have spw : spl Z 0 sq = sq := by unfold spl; rw [List.take_zero, List.nil_append, Nat.zero_add, List.drop_eq_nil_of_le (by omega), List.append_nil]
  have tk : List.take 23 sq = sq := List.take_of_length_le (by omega)
  have hsu : underL H.length sq = true := by rw [hsqe]; exact underL_frzB _ _ (frzS q)
  refine awp_all (hn := fun _ => false) (od := stOd) (by kernel_rfl) ?_
  simp -dsimp [stOd, f6', f11', f12', mac, t23, d25, l26, b6, s6, one', hZl, hsq, spw, tk]
  have hX : NF sq ++ L' = H.set kb (byB q.b) ++ ([.box 28 sc, .box 28 sq, byB s.b, meB lay (H.length + 2)] ++ L') := by rw [hNF, List.append_assoc]
  rw [hX]
  refine tidy_to (by rw [List.length_set]; omega) (fun _ => ?_) ?_ ⟨rfl, rfl⟩
  · rw [List.length_set]
    exact underH_set hu0 (by_under _ _)
  · rw [List.length_set]
    show (underL H.length sq && ((Se.sl q.seen).under H.length && ((I e).under H.length && true))) = true
    rw [hsu]
    cases q.seen <;> rfl
end Go.Proofs
namespace Go.Proofs
open Go.Mu
structure Apart (i : Amd) (s : Mst) (r x : Int) (A B : Mst × Int) : Prop where
  e : A.2 = B.2
  f : A.1.f = B.1.f
  at_ : A.1.at_ = B.1.at_
  steps : A.1.steps = B.1.steps
  seen : A.1.seen = B.1.seen
  same : writesE i = (r, true) → A.2 = 0 → A.1.R = B.1.R
  less : ¬ (writesE i = (r, true) ∧ A.2 = 0) → vg A.1.R r = vg s.R r ∧ vg B.1.R r = x ∧ A.1.R.set r.toNat x = B.1.R
end Go.Proofs
