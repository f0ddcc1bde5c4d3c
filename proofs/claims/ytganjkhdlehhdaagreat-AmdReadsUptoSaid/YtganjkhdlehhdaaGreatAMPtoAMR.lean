/- A single step. -/
import Derived.Test.YtganjkhdlehhdaaGreatFwJmptoAMG
import Derived.Test.YtganjkhdlehhdaaGreatFwUtoFwBox
import Derived.Test.YtganjkhdlehhdaaGreatFS9toAMQ
import Derived.Test.YtganjkhdlehhdaaGreatKN41toAMJ
set_option linter.unusedVariables false
set_option linter.unusedSimpArgs false
set_option maxHeartbeats 4000000
set_option maxRecDepth 100000
namespace Go.Proofs
open Go.Mu
def stOd (i : Nat) : Option OPlan := if i = 8 then some [(0, []), (1, []), (2, []), (3, []), (4, []), (5, []), (6, []), (7, []), (8, []), (9, [5, 6, 7]), (10, []), (11, [])] else none
theorem astep_run (l : List Amd) (hm : Lm.mayA l = true) (hr : ∀ i ∈ l, Wd i.imm) (s : Mst) (hs : MsR s) (hsn : s.seen = []) (h0 : 0 ≤ s.at_) (h1 : s.at_ ≤ l.length) (lay : List Rg) (hl : lay.length ≤ 16) (ho : ∀ r ∈ lay, r.Ok) {H : List Blk} {k kb : Nat} (m : MemAt H k kb lay s.b) :
    ACalls Tryz.prog 10 [Lm.Amd.sl l, .agg (stC s), .bp k 0] H (fun e M' => e = .ret (.tup [.agg (stC (stepM lay l s).1), Se.sl (stepM lay l s).1.seen, I (stepM lay l s).2]) ∧ M' = H.set kb (byB (stepM lay l s).1.b)) := by
  refine acalls_under fun hu0 _ => acalls_tidy (acalls_of_awp Tryz.func10 rfl (by kernel_rfl) ?_)
  obtain ⟨sc, hsc⟩ : ∃ sc, sc = stC s := ⟨_, rfl⟩
  have hsl : sc.length = 23 := by rw [hsc]; unfold stC; simp [hs.R]
  rw [← hsc]
  obtain ⟨Z, hZ⟩ : ∃ Z, Z = List.replicate 16 (U 0) ++ [Bo false, Bo false, Bo false, Bo false, Bo false, I 0, I 0] := ⟨_, rfl⟩
  refine awp_cut (fun _ => false) (fun _ => none) (fun f M => M = H ++ [.box 28 sc, .box 28 Z] ∧ f 0 = Lm.Amd.sl l ∧ f 2 = .bp k 0 ∧ f 4 = .bp H.length 0 ∧ f 6 = .bp (H.length + 1) 0) (by kernel_rfl) ?_ ?_
  · simp -dsimp [hsl]
    exact hZ.symm
  rintro f M ⟨hM, f0, f2, f4, f6⟩
  have mM : MemAt M k kb lay s.b := by rw [hM]; exact ⟨get_app_old m.me _, get_app_old m.bytes _, m.len⟩
  have nM : M.length = H.length + 2 := by rw [hM]; simp
  have cc := mcopy_ok mM hl
  have eM := fun k o => eqM k o
  refine awp_cut (fun _ => false) (fun _ => none) (fun f M' => M' = M ++ [byB s.b, meB lay M.length] ∧ f 0 = Lm.Amd.sl l ∧ f 2 = .bp k 0 ∧ f 4 = .bp H.length 0 ∧ f 6 = .bp (H.length + 1) 0) (by kernel_rfl) ?_ ?_
  · simp -dsimp [f0, f2, f4, f6]
    refine acallsW_of cc ?_
    rintro e _ ⟨rfl, rfl⟩
    simp -dsimp [f0, f2, f4, f6, eM]
  clear f0 f2 f4 f6 f
  rintro f M2 ⟨hM2, f0, f2, f4, f6⟩
  refine awp_spare 1 ?_
  have hll : l.length ≤ 1048576 := by
    have := hm
    unfold Lm.mayA at this
    simp only [Bool.and_eq_true, decide_eq_true_eq] at this
    exact this.1.1
  have hra : ∀ i ∈ l, AmdR i ∧ Wd i.imm := fun i hi => by
    have := hm
    unfold Lm.mayA at this
    simp only [Bool.and_eq_true, List.all_eq_true, Lm.goodA] at this
    exact ⟨mayOne_r (this.2 i hi).1, hr i hi⟩
  obtain ⟨M3, hM3⟩ : ∃ M3, M3 = M2 ++ List.replicate 1 Blk.pend := ⟨_, rfl⟩
  rw [← hM3]
  have co := Lm.open_ok l (by omega) M3
  rw [if_pos hm, hm] at co
  refine awp_cut (fun _ => false) (fun _ => none) (fun f M4 => (∃ b0 b1 C, M4 = M3 ++ ([b0, b1, .map (Lm.tabM (Lm.labsA l 0)), .box 137 [Lm.Amd.sl l, .hm (M3.length + 2)]] ++ C)) ∧ f 0 = Lm.Amd.sl l ∧ f 2 = .bp k 0 ∧ f 4 = .bp H.length 0 ∧ f 6 = .bp (H.length + 1) 0 ∧ f 9 = .bp (M3.length + 3) 0 ∧ f 10 = Bo true) (by kernel_rfl) ?_ ?_
  · simp -dsimp [f0, f2, f4, f6]
    refine acallsW_of co ?_
    rintro e _ ⟨t, C, rfl, rfl, ht⟩
    simp -dsimp [f0, f2, f4, f6]
    rw [ht rfl]
  clear f0 f2 f4 f6 f
  rintro f M4 ⟨⟨b0, b1, C, hM4⟩, f0, f2, f4, f6, f9, f10⟩
  have n2 : M2.length = H.length + 4 := by rw [hM2]; simp; omega
  have n3 : M3.length = H.length + 5 := by rw [hM3]; simp; omega
  have n4 : M4.length = H.length + 5 + (C.length + 4) := by rw [hM4]; simp; omega
  have g4 : M4[H.length]? = some (.box 28 sc) := by rw [hM4, hM3, hM2, hM]; simp
  have dn : decide (s.at_ < 0) = false := decide_eq_false (by omega)
  have dg : decide ((l.length : Int) < s.at_) = false := decide_eq_false (by omega)
  have d21 : sc.drop 21 = [I s.at_, I s.steps] := by
    rw [hsc]
    unfold stC
    rw [show (21 : Nat) = (Regs s.R).length + 5 by simp [hs.R], ← List.drop_drop, List.drop_left]
    rfl
  refine awp_cut (fun _ => false) (fun _ => none) (fun f M5 => M5 = M4 ∧ f 0 = Lm.Amd.sl l ∧ f 2 = .bp k 0 ∧ f 4 = .bp H.length 0 ∧ f 6 = .bp (H.length + 1) 0 ∧ f 9 = .bp (M3.length + 3) 0) (by kernel_rfl) ?_ ?_
  · simp -dsimp [f0, f2, f4, f6, f9, f10, g4, d21, dn, dg]
  clear f0 f2 f4 f6 f9 f10 f
  rintro f Mx ⟨hMx, f0, f2, f4, f6, f9⟩
  rw [hMx]
  clear hMx Mx
  refine awp_cut (fun _ => false) (fun _ => none) (fun f M6 => M6 = M4 ++ [macB M2.length (M3.length + 3) k s] ∧ f 6 = .bp (H.length + 1) 0 ∧ f 11 = .bp M4.length 0) (by kernel_rfl) ?_ ?_
  · have htk : List.take 23 sc = sc := List.take_of_length_le (by omega)
    have s23 : ∀ x, spl (sc ++ [AV.v (Value.pointer none), AV.v (Value.pointer none), AV.v (Value.slice none 0 0)]) 23 [x] = _ := fun x => spl_app hsl 0 x (by simp)
    have s24 : ∀ x y, spl (sc ++ [x, AV.v (Value.pointer none), AV.v (Value.slice none 0 0)]) 24 [y] = _ := fun x y => spl_app hsl 1 y (by simp)
    simp only [List.set_cons_succ, List.set_cons_zero] at s23 s24
    simp -dsimp [f0, f2, f4, f6, f9, g4, hsl, htk, s23, s24]
    rw [hsc]
    simp [macB, mcl, stC, hsn]
    exact (ownS_nil _).symm
  clear f0 f2 f4 f6 f9 f
  rintro f M5 ⟨hM5, f6, f11⟩
  have hkH := lt_of_get m.me
  have hbH := lt_of_get m.bytes
  have hkb : k ≠ kb := fun e => by
    have h1 := m.me
    have h2 := m.bytes
    rw [e, h2] at h1
    simp at h1
  obtain ⟨M6, hM6⟩ : ∃ M6, M6 = M5 ++ [.map deedMap] := ⟨_, rfl⟩
  have n5 : M5.length = M4.length + 1 := by rw [hM5]; simp
  have e6 : M6 = M4 ++ [macB M2.length (M3.length + 3) k s, .map deedMap] := by rw [hM6, hM5]; simp
  have e4 : M4 = H ++ ([.box 28 sc, .box 28 Z, byB s.b, meB lay M.length, .pend, b0, b1, .map (Lm.tabM (Lm.labsA l 0)), .box 137 [Lm.Amd.sl l, .hm (M3.length + 2)]] ++ C) := by rw [hM4, hM3, hM2, hM]; simp
  have at4 : ∀ {i : Nat} {x}, M4[i]? = some x → M6[i]? = some x := fun h => by rw [e6]; exact get_app_old h _
  have atH : ∀ (j : Nat) {x}, ([.box 28 sc, .box 28 Z, byB s.b, meB lay M.length, .pend, b0, b1, .map (Lm.tabM (Lm.labsA l 0)), .box 137 [Lm.Amd.sl l, .hm (M3.length + 2)]] ++ C)[j]? = some x → M6[H.length + j]? = some x := fun j x h => at4 (by rw [e4, List.getElem?_append_right (by omega), Nat.add_sub_cancel_left]; exact h)
  have oldH : ∀ {i : Nat} {x}, H[i]? = some x → M6[i]? = some x := fun h => at4 (by rw [e4]; exact get_app_old h _)
  obtain ⟨G, gg, hG0, hGd⟩ := GA.mk' (M := M6) (km := M4.length) (kp := M3.length + 3) (ka := M3.length + 2) (kme := k) (kb := kb) (ks := M2.length) (l := l) (lay := lay) (s0 := s)
    (by simp only [List.nodup_cons, List.mem_cons, List.not_mem_nil, or_false, not_or, not_false_eq_true, List.nodup_nil, and_true]; omega)
    (by rw [e6, List.getElem?_append_right (Nat.le_refl _), Nat.sub_self]; rfl)
    (by rw [show M3.length + 3 = H.length + 8 by omega]; exact atH 8 rfl)
    (by rw [show M3.length + 2 = H.length + 7 by omega]; exact atH 7 rfl)
    ⟨oldH m.me, oldH m.bytes, m.len⟩
    (by rw [n2, hsn]; exact atH 4 rfl)
  have hkd : M6[M5.length]? = some (.map deedMap) := by rw [hM6]; simp
  have hdn : M5.length ≠ M4.length ∧ M5.length ≠ kb ∧ M5.length ≠ M2.length := by omega
  have cs := astep_ok gg hl ho hll hra M5.length hkd hdn s hs h0 h1
  obtain ⟨S, hS⟩ : ∃ S, S = stepM lay l s := ⟨_, rfl⟩
  rw [← hS] at cs ⊢
  have hSR : S.1.R.length = 16 := by
    rw [hS]
    unfold stepM
    split
    · exact hs.R
    · split
      · exact hs.R
      · split
        · exact hs.R
        · split
          · rw [deed_R]; exact hs.R
          · show (deedM lay l _ _).1.R.length = 16
            rw [deed_R]; exact hs.R
  refine awp_cut (fun _ => false) (fun _ => none) (fun f M' => M' = G S.1 ∧ f 6 = .bp (H.length + 1) 0 ∧ f 11 = .bp M4.length 0 ∧ f 12 = I S.2) (by kernel_rfl) ?_ ?_
  · simp -dsimp [f6, f11]
    refine acallsW_of (deeds_ok _) ?_
    rintro e _ ⟨rfl, rfl⟩
    simp -dsimp [f6, f11]
    rw [← hM6, hG0]
    refine acallsW_of cs ?_
    rintro e _ ⟨rfl, rfl⟩
    simp -dsimp [f6, f11]
  clear f6 f11 f
  rintro f Mx ⟨hMx, f6, f11, f12⟩
  rw [hMx]
  clear hMx Mx cs hS hG0
  obtain ⟨q, e⟩ := S
  simp only at f12 hSR ⊢
  obtain ⟨T, hT⟩ : ∃ T, T = b0 :: b1 :: .map (Lm.tabM (Lm.labsA l 0)) :: .box 137 [Lm.Amd.sl l, .hm (M3.length + 2)] :: C := ⟨_, rfl⟩
  have hTl : T.length = C.length + 4 := by rw [hT]; simp
  obtain ⟨NF, hNF⟩ : ∃ NF : List AV → List Blk, ∀ Z', NF Z' = H.set kb (byB q.b) ++ [.box 28 sc, .box 28 Z', byB s.b, meB lay (H.length + 2)] := ⟨_, fun _ => rfl⟩
  have nNF : ∀ Z', (NF Z').length = H.length + 4 := fun Z' => by rw [hNF]; simp
  have hGN : G q = NF Z ++ (seB q.seen :: (T ++ [macB M2.length (M3.length + 3) k q, .map deedMap])) := by
    rw [hGd, n4, e6, e4, hNF, n2, nM]
    have q1 : H ++ ([.box 28 sc, .box 28 Z, byB s.b, meB lay (H.length + 2), .pend, b0, b1, .map (Lm.tabM (Lm.labsA l 0)), .box 137 [Lm.Amd.sl l, .hm (M3.length + 2)]] ++ C) ++ [macB (H.length + 4) (M3.length + 3) k s, .map deedMap] = H ++ (.box 28 sc :: .box 28 Z :: byB s.b :: meB lay (H.length + 2) :: .pend :: (T ++ [macB (H.length + 4) (M3.length + 3) k s, .map deedMap])) := by rw [hT]; simp
    rw [q1, List.set_append_right _ _ (by omega), Nat.add_sub_cancel_left, List.set_append_left _ _ hbH, List.set_append_right _ _ (by rw [List.length_set]; omega), List.length_set]
    rw [show H.length + 5 + (C.length + 4) - H.length = T.length + 1 + 1 + 1 + 1 + 1 by omega]
    simp only [List.set_cons_succ, List.set_cons_zero]
    rw [List.set_append_right _ _ (Nat.le_refl _), Nat.sub_self]
    simp
  have hsq : (stC q).length = 23 := by unfold stC; simp [hSR]
  have frzS : ∀ x : Mst, ∀ c ∈ stC x, AV.frzB c = true := fun x c hc => by
    unfold stC at hc
    simp only [List.mem_append, List.mem_map, List.mem_cons, List.not_mem_nil, or_false] at hc
    rcases hc with ⟨x, _, rfl⟩ | rfl | rfl | rfl | rfl | rfl | rfl | rfl <;> rfl
  have huN : underH (NF Z).length (NF Z) = true := by
    rw [nNF, hNF]
    refine underH_appF (n := H.length) (by omega) (underH_set hu0 (by_under _ _)) ?_
    intro x hx
    simp only [List.mem_cons, List.not_mem_nil, or_false] at hx
    rcases hx with rfl | rfl | rfl | rfl
    · rw [hsc]
      exact underL_frzB _ _ (frzS s)
    · rw [hZ]; rfl
    · exact by_under _ _
    · simp only [Blk.under, underL, Bool.and_true, Bool.and_eq_true, AV.under, decide_eq_true_eq]
      exact ⟨trivial, by omega⟩
  rw [hGN]
  refine awp_giveBox huN 0 3 78 (q.seen.map Se.cells) rfl (se_frzB _) (T.length + 1) 88 (mcl M2.length (M3.length + 3) k q) (stC q ++ [.bp (M3.length + 3) 0, .bp k 0] ++ [Se.sl q.seen]) (by rw [List.getElem?_cons_succ, List.getElem?_append_right (Nat.le_refl _), Nat.sub_self]; rfl) (by omega) (by rw [nNF, show H.length + 4 + 0 = M2.length by omega]; exact mac_weak _ _ _ _) ?_
  intro L' f' hf' hL'1 hmac _
  have f6' : f' 6 = .bp (H.length + 1) 0 := by rw [hf', f6]; exact frzS_bp _ _ _ _ _
  have f11' : f' 11 = .bp M4.length 0 := by rw [hf', f11]; exact frzS_bp _ _ _ _ _
  have f12' : f' 12 = I e := by rw [hf', f12]; exact frzS_v _ _ _ _
  obtain ⟨sq, hsqe⟩ : ∃ sq, sq = stC q := ⟨_, rfl⟩
  rw [← hsqe] at hmac hsq ⊢
  obtain ⟨mc, hmc⟩ : ∃ mc, mc = sq ++ [AV.bp (M3.length + 3) 0, .bp k 0] ++ [Se.sl q.seen] := ⟨_, rfl⟩
  have t23 : List.take 23 mc = sq := by rw [hmc, List.append_assoc, List.take_append_of_le_length (by omega), List.take_of_length_le (by omega)]
  have d25 : List.drop 25 mc = [Se.sl q.seen] := by rw [hmc, List.drop_append_of_le_length (by simp [hsq]), List.drop_eq_nil_of_le (by simp [hsq])]; rfl
  have l26 : mc.length = 26 := by rw [hmc]; simp [hsq]
  rw [← hmc] at hmac
  clear hmc
  have mac : ∀ Z', (NF Z' ++ L')[M4.length]? = some (.box 88 mc) := fun Z' => by
    rw [List.getElem?_append_right (by rw [nNF]; omega), nNF, show M4.length - (H.length + 4) = T.length + 1 by omega]; exact hmac
  have b6 : ∀ Z', (NF Z' ++ L')[H.length + 1]? = some (.box 28 Z') := fun Z' => by
    rw [hNF, List.append_assoc, List.getElem?_append_right (by rw [List.length_set]; omega), List.length_set, Nat.add_sub_cancel_left]; rfl
  have s6 : ∀ Z' Z'', (NF Z' ++ L').set (H.length + 1) (.box 28 Z'') = NF Z'' ++ L' := fun Z' Z'' => by
    rw [hNF, hNF, List.append_assoc, List.set_append_right _ _ (by rw [List.length_set]; omega), List.length_set, Nat.add_sub_cancel_left, List.append_assoc]; rfl
  have hZl : Z.length = 23 := by rw [hZ]; simp
  have one' : sq.all AV.one = true := List.all_eq_true.2 fun c hc => by
    rw [hsqe] at hc
    unfold stC at hc
    simp only [List.mem_append, List.mem_map, List.mem_cons, List.not_mem_nil, or_false] at hc
    rcases hc with ⟨x, _, rfl⟩ | rfl | rfl | rfl | rfl | rfl | rfl | rfl <;> rfl
  have one : ∀ c ∈ sq, AV.one c = true := List.all_eq_true.1 one'
  have spw : spl Z 0 sq = sq := by unfold spl; rw [List.take_zero, List.nil_append, Nat.zero_add, List.drop_eq_nil_of_le (by omega), List.append_nil]
  have tk : List.take 23 sq = sq := List.take_of_length_le (by omega)
  have hsu : underL H.length sq = true := by rw [hsqe]; exact underL_frzB _ _ (frzS q)
  refine awp_all (hn := fun _ => false) (od := stOd) (by kernel_rfl) ?_
  simp -dsimp [stOd, f6', f11', f12', mac, t23, d25, l26, b6, s6, one', hZl, hsq, spw, tk]
  have hX : NF sq ++ L' = H.set kb (byB q.b) ++ ([.box 28 sc, .box 28 sq, byB s.b, meB lay (H.length + 2)] ++ L') := by rw [hNF, List.append_assoc]
  rw [hX]
  refine tidy_to (by rw [List.length_set]; omega) (fun _ => ?_) ?_ ⟨rfl, rfl⟩
  · rw [List.length_set]
    exact underH_set hu0 (by_under _ _)
  · rw [List.length_set]
    show (underL H.length sq && ((Se.sl q.seen).under H.length && ((I e).under H.length && true))) = true
    rw [hsu]
    cases q.seen <;> rfl
end Go.Proofs
namespace Go.Proofs
open Go.Mu
theorem mem_add (b : Bool) (r : Int) (l : List Int) (y : Int) : y ∈ addIf b r l ↔ (b = true ∧ y = r) ∨ y ∈ l := by
  unfold addIf
  cases b <;> simp [or_comm]
theorem mem_reads (i : Amd) (p y : Int) : y ∈ readsP i p ↔ (i.hasIndex = true ∧ y = i.index) ∨ (i.hasBase = true ∧ y = i.base) ∨ (i.op = 7 ∧ y = 1) ∨ ((Lm.bitP p 1 = true ∧ freshO i.op = false) ∧ y = i.dst) ∨ (Lm.bitP p 2 = true ∧ y = i.src) := by
  unfold readsP
  simp only [mem_add, beq_iff_eq, Bool.and_eq_true, Bool.not_eq_true', List.not_mem_nil, or_false]
def formD (i : Amd) (F : Fl) (Q : List Se) (B : List Int) (W : Bool) (V E : Int) (y : Mst) : Mst × Int :=
  ({ y with f := F, seen := y.seen ++ Q, b := B, R := if W = true then y.R.set i.dst.toNat V else y.R }, E)
theorem may_regs {i : Amd} (h : Lm.mayOne i = true) : Lm.isReg i.base = true ∧ Lm.isReg i.index = true := by
  unfold Lm.mayOne at h
  cases hl : Lm.partsT.lookup i.op with
  | none => rw [hl] at h; cases h
  | some p =>
    rw [hl] at h
    simp only [Bool.and_eq_true] at h
    obtain ⟨⟨⟨⟨⟨⟨h1, h2⟩, h3⟩, h4⟩, h5⟩, h6⟩, h7⟩ := h
    unfold Lm.mayAddr at h4
    simp only [Bool.and_eq_true] at h4
    exact ⟨h4.1.1.1, h4.1.2.1.1⟩
theorem deed_form (lay : List Rg) (l : List Amd) {i : Amd} (hm : Lm.mayOne i = true) (h17 : i.op ≠ 17) (h18 : i.op ≠ 18) (h19 : i.op ≠ 19) (h20 : i.op ≠ 20) (s : Mst) (R' b' : List Int) (hv : ∀ j ∈ readsP i (partOf i), vg R' j = vg s.R j) (hb : i.op ≠ 4 → b' = s.b) :
    ∃ F Q B B' W V E, deedM lay l i s = formD i F Q B W V E s ∧ deedM lay l i { s with R := R', b := b' } = formD i F Q B' W V E { s with R := R', b := b' } ∧ (i.op ≠ 4 → B = s.b) ∧ (W = true → E = 0 ∧ writesE i = (i.dst, true)) ∧ (writesE i = (i.dst, true) → E = 0 → W = true ∨ i.dst ∈ readsP i (partOf i)) := by
  have hop := (mayOne_r hm).op
  have hA : addrE i R' = addrE i s.R := by
    unfold addrE
    simp only
    have e1 : i.hasBase = true → vg R' i.base = vg s.R i.base := fun h => hv _ ((mem_reads i _ _).2 (.inr (.inl ⟨h, rfl⟩)))
    have e2 : i.hasIndex = true → vg R' i.index = vg s.R i.index := fun h => hv _ ((mem_reads i _ _).2 (.inl ⟨h, rfl⟩))
    by_cases hb : i.hasBase = true <;> by_cases hx : i.hasIndex = true
    · rw [e1 hb, e2 hx]
    · rw [e1 hb]; simp [hx]
    · rw [e2 hx]; simp [hb]
    · simp [hb, hx]
  have h1 : i.op = 7 → vg R' 1 = vg s.R 1 := fun h => hv _ ((mem_reads i _ _).2 (.inr (.inr (.inl ⟨h, rfl⟩))))
  have hd : Lm.bitP (partOf i) 1 = true → freshO i.op = false → vg R' i.dst = vg s.R i.dst := fun h h' => hv _ ((mem_reads i _ _).2 (.inr (.inr (.inr (.inl ⟨⟨h, h'⟩, rfl⟩)))))
  have hs : Lm.bitP (partOf i) 2 = true → vg R' i.src = vg s.R i.src := fun h => hv _ ((mem_reads i _ _).2 (.inr (.inr (.inr (.inr ⟨h, rfl⟩)))))
  have hdr : Lm.bitP (partOf i) 1 = true → freshO i.op = false → i.dst ∈ readsP i (partOf i) := fun h h' => (mem_reads i _ _).2 (.inr (.inr (.inr (.inl ⟨⟨h, h'⟩, rfl⟩))))
  have hw : writesE i = if (!asksO i.op && Lm.bitP (partOf i) 1) = true then (i.dst, true) else (0, false) := by unfold writesE; rw [hm, Bool.true_and]
  have c : i.op = 1 ∨ i.op = 2 ∨ i.op = 3 ∨ i.op = 4 ∨ i.op = 5 ∨ i.op = 6 ∨ i.op = 7 ∨ i.op = 8 ∨ i.op = 9 ∨ i.op = 10 ∨ i.op = 11 ∨ i.op = 12 ∨ i.op = 13 ∨ i.op = 14 ∨ i.op = 15 ∨ i.op = 16 := by omega
  rcases c with c | c | c | c | c | c | c | c | c | c | c | c | c | c | c | c
  · have hp : partOf i = 3 := by unfold partOf; rw [c]; rfl
    have b1 : Lm.bitP (partOf i) 1 = true := by rw [hp]; decide
    have b2 : Lm.bitP (partOf i) 2 = true := by rw [hp]; decide
    have fr : freshO i.op = true := by rw [c]; decide
    have ak : asksO i.op = false := by rw [c]; decide
    have hb := hb (by rw [c]; decide)
    subst hb
    replace hs := hs b2
    refine ⟨s.f, [], s.b, s.b, true, (vg s.R i.src), 0, ?_, ?_, ?_, ?_, ?_⟩
    · simp [deedM, formD, c, loadM, storeM, binM, binOp, binY, shiftM, shN, negM, condM]
    · simp [deedM, formD, c, loadM, storeM, binM, binOp, binY, shiftM, shN, negM, condM, hA, hs]
    · intro _; rfl
    · intro _; exact ⟨rfl, by rw [hw, ak, b1]; rfl⟩
    · intro _ _; exact .inl rfl
  · have hp : partOf i = 5 := by unfold partOf; rw [c]; rfl
    have b1 : Lm.bitP (partOf i) 1 = true := by rw [hp]; decide
    have b2 : Lm.bitP (partOf i) 2 = false := by rw [hp]; decide
    have fr : freshO i.op = true := by rw [c]; decide
    have ak : asksO i.op = false := by rw [c]; decide
    have hb := hb (by rw [c]; decide)
    subst hb
    refine ⟨s.f, [], s.b, s.b, true, i.imm, 0, ?_, ?_, ?_, ?_, ?_⟩
    · simp [deedM, formD, c, loadM, storeM, binM, binOp, binY, shiftM, shN, negM, condM]
    · simp [deedM, formD, c, loadM, storeM, binM, binOp, binY, shiftM, shN, negM, condM, hA]
    · intro _; rfl
    · intro _; exact ⟨rfl, by rw [hw, ak, b1]; rfl⟩
    · intro _ _; exact .inl rfl
  · have hp : partOf i = 9 := by unfold partOf; rw [c]; rfl
    have b1 : Lm.bitP (partOf i) 1 = true := by rw [hp]; decide
    have b2 : Lm.bitP (partOf i) 2 = false := by rw [hp]; decide
    have fr : freshO i.op = true := by rw [c]; decide
    have ak : asksO i.op = false := by rw [c]; decide
    have hb := hb (by rw [c]; decide)
    subst hb
    refine ⟨s.f, ([⟨false, false, addrE i s.R⟩]), s.b, s.b, (decide (askE lay (addrE i s.R) = 0)), (getW s.b (addrE i s.R).toNat), (askE lay (addrE i s.R)), ?_, ?_, ?_, ?_, ?_⟩
    · by_cases ha : askE lay (addrE i s.R) = 0 <;> simp [deedM, formD, c, loadM, storeM, binM, binOp, binY, shiftM, shN, negM, condM, ha]
    · by_cases ha : askE lay (addrE i s.R) = 0 <;> simp [deedM, formD, c, loadM, storeM, binM, binOp, binY, shiftM, shN, negM, condM, ha, hA]
    · intro _; rfl
    · intro h; exact ⟨of_decide_eq_true h, by rw [hw, ak, b1]; rfl⟩
    · intro _ h; exact .inl (decide_eq_true h)
  · have hp : partOf i = 10 := by unfold partOf; rw [c]; rfl
    have b1 : Lm.bitP (partOf i) 1 = false := by rw [hp]; decide
    have b2 : Lm.bitP (partOf i) 2 = true := by rw [hp]; decide
    have fr : freshO i.op = false := by rw [c]; decide
    have ak : asksO i.op = false := by rw [c]; decide
    replace hs := hs b2
    refine ⟨s.f, ([⟨false, false, addrE i s.R⟩]), (if askE lay (addrE i s.R) = 0 then putW s.b (addrE i s.R).toNat (vg s.R i.src) else s.b), (if askE lay (addrE i s.R) = 0 then putW b' (addrE i s.R).toNat (vg s.R i.src) else b'), false, 0, (askE lay (addrE i s.R)), ?_, ?_, ?_, ?_, ?_⟩
    · by_cases ha : askE lay (addrE i s.R) = 0 <;> simp [deedM, formD, c, loadM, storeM, binM, binOp, binY, shiftM, shN, negM, condM, ha]
    · by_cases ha : askE lay (addrE i s.R) = 0 <;> simp [deedM, formD, c, loadM, storeM, binM, binOp, binY, shiftM, shN, negM, condM, ha, hA, hs]
    · intro h; exact absurd c h
    · intro h; cases h
    · rw [hw, b1]; intro h; simp at h
  · have hp : partOf i = 19 := by unfold partOf; rw [c]; rfl
    have b1 : Lm.bitP (partOf i) 1 = true := by rw [hp]; decide
    have b2 : Lm.bitP (partOf i) 2 = true := by rw [hp]; decide
    have fr : freshO i.op = false := by rw [c]; decide
    have ak : asksO i.op = false := by rw [c]; decide
    have hb := hb (by rw [c]; decide)
    subst hb
    replace hs := hs b2
    replace hd := hd b1 fr
    refine ⟨(doF i.bin (vg s.R i.dst) (vg s.R i.src) s.f), [], s.b, s.b, true, (doV i.bin (vg s.R i.dst) (vg s.R i.src) s.f), 0, ?_, ?_, ?_, ?_, ?_⟩
    · simp [deedM, formD, c, loadM, storeM, binM, binOp, binY, shiftM, shN, negM, condM]
    · simp [deedM, formD, c, loadM, storeM, binM, binOp, binY, shiftM, shN, negM, condM, hA, hs, hd]
    · intro _; rfl
    · intro _; exact ⟨rfl, by rw [hw, ak, b1]; rfl⟩
    · intro _ _; exact .inl rfl
  · have hp : partOf i = 21 := by unfold partOf; rw [c]; rfl
    have b1 : Lm.bitP (partOf i) 1 = true := by rw [hp]; decide
    have b2 : Lm.bitP (partOf i) 2 = false := by rw [hp]; decide
    have fr : freshO i.op = false := by rw [c]; decide
    have ak : asksO i.op = false := by rw [c]; decide
    have hb := hb (by rw [c]; decide)
    subst hb
    replace hd := hd b1 fr
    refine ⟨(doF i.bin (vg s.R i.dst) i.imm s.f), [], s.b, s.b, true, (doV i.bin (vg s.R i.dst) i.imm s.f), 0, ?_, ?_, ?_, ?_, ?_⟩
    · simp [deedM, formD, c, loadM, storeM, binM, binOp, binY, shiftM, shN, negM, condM]
    · simp [deedM, formD, c, loadM, storeM, binM, binOp, binY, shiftM, shN, negM, condM, hA, hd]
    · intro _; rfl
    · intro _; exact ⟨rfl, by rw [hw, ak, b1]; rfl⟩
    · intro _ _; exact .inl rfl
  · have hp : partOf i = 33 := by unfold partOf; rw [c]; rfl
    have b1 : Lm.bitP (partOf i) 1 = true := by rw [hp]; decide
    have b2 : Lm.bitP (partOf i) 2 = false := by rw [hp]; decide
    have fr : freshO i.op = false := by rw [c]; decide
    have ak : asksO i.op = false := by rw [c]; decide
    have hb := hb (by rw [c]; decide)
    subst hb
    replace hd := hd b1 fr
    replace h1 := h1 c
    refine ⟨(shiftF i.shift (vg s.R i.dst) (vg s.R 1) s.f), [], s.b, s.b, true, (shiftV i.shift (vg s.R i.dst) (vg s.R 1)), 0, ?_, ?_, ?_, ?_, ?_⟩
    · simp [deedM, formD, c, loadM, storeM, binM, binOp, binY, shiftM, shN, negM, condM]
    · simp [deedM, formD, c, loadM, storeM, binM, binOp, binY, shiftM, shN, negM, condM, hA, hd, h1]
    · intro _; rfl
    · intro _; exact ⟨rfl, by rw [hw, ak, b1]; rfl⟩
    · intro _ _; exact .inl rfl
  · have hp : partOf i = 37 := by unfold partOf; rw [c]; rfl
    have b1 : Lm.bitP (partOf i) 1 = true := by rw [hp]; decide
    have b2 : Lm.bitP (partOf i) 2 = false := by rw [hp]; decide
    have fr : freshO i.op = false := by rw [c]; decide
    have ak : asksO i.op = false := by rw [c]; decide
    have hb := hb (by rw [c]; decide)
    subst hb
    replace hd := hd b1 fr
    refine ⟨(shiftF i.shift (vg s.R i.dst) i.imm s.f), [], s.b, s.b, true, (shiftV i.shift (vg s.R i.dst) i.imm), 0, ?_, ?_, ?_, ?_, ?_⟩
    · simp [deedM, formD, c, loadM, storeM, binM, binOp, binY, shiftM, shN, negM, condM]
    · simp [deedM, formD, c, loadM, storeM, binM, binOp, binY, shiftM, shN, negM, condM, hA, hd]
    · intro _; rfl
    · intro _; exact ⟨rfl, by rw [hw, ak, b1]; rfl⟩
    · intro _ _; exact .inl rfl
  · have hp : partOf i = 1 := by unfold partOf; rw [c]; rfl
    have b1 : Lm.bitP (partOf i) 1 = true := by rw [hp]; decide
    have b2 : Lm.bitP (partOf i) 2 = false := by rw [hp]; decide
    have fr : freshO i.op = false := by rw [c]; decide
    have ak : asksO i.op = false := by rw [c]; decide
    have hb := hb (by rw [c]; decide)
    subst hb
    replace hd := hd b1 fr
    refine ⟨s.f, [], s.b, s.b, true, (notU (vg s.R i.dst)), 0, ?_, ?_, ?_, ?_, ?_⟩
    · simp [deedM, formD, c, loadM, storeM, binM, binOp, binY, shiftM, shN, negM, condM]
    · simp [deedM, formD, c, loadM, storeM, binM, binOp, binY, shiftM, shN, negM, condM, hA, hd]
    · intro _; rfl
    · intro _; exact ⟨rfl, by rw [hw, ak, b1]; rfl⟩
    · intro _ _; exact .inl rfl
  · have hp : partOf i = 1 := by unfold partOf; rw [c]; rfl
    have b1 : Lm.bitP (partOf i) 1 = true := by rw [hp]; decide
    have b2 : Lm.bitP (partOf i) 2 = false := by rw [hp]; decide
    have fr : freshO i.op = false := by rw [c]; decide
    have ak : asksO i.op = false := by rw [c]; decide
    have hb := hb (by rw [c]; decide)
    subst hb
    replace hd := hd b1 fr
    refine ⟨(doF 3 0 (vg s.R i.dst) ⟨false, false, false, false, false⟩), [], s.b, s.b, true, (doV 3 0 (vg s.R i.dst) ⟨false, false, false, false, false⟩), 0, ?_, ?_, ?_, ?_, ?_⟩
    · simp [deedM, formD, c, loadM, storeM, binM, binOp, binY, shiftM, shN, negM, condM]
    · simp [deedM, formD, c, loadM, storeM, binM, binOp, binY, shiftM, shN, negM, condM, hA, hd]
    · intro _; rfl
    · intro _; exact ⟨rfl, by rw [hw, ak, b1]; rfl⟩
    · intro _ _; exact .inl rfl
  · have hp : partOf i = 3 := by unfold partOf; rw [c]; rfl
    have b1 : Lm.bitP (partOf i) 1 = true := by rw [hp]; decide
    have b2 : Lm.bitP (partOf i) 2 = true := by rw [hp]; decide
    have fr : freshO i.op = false := by rw [c]; decide
    have ak : asksO i.op = true := by rw [c]; decide
    have hb := hb (by rw [c]; decide)
    subst hb
    replace hs := hs b2
    replace hd := hd b1 fr
    refine ⟨(doF 3 (vg s.R i.dst) (vg s.R i.src) s.f), [], s.b, s.b, false, 0, 0, ?_, ?_, ?_, ?_, ?_⟩
    · simp [deedM, formD, c, loadM, storeM, binM, binOp, binY, shiftM, shN, negM, condM]
    · simp [deedM, formD, c, loadM, storeM, binM, binOp, binY, shiftM, shN, negM, condM, hA, hs, hd]
    · intro _; rfl
    · intro h; cases h
    · rw [hw, ak]; intro h; cases (show false = true from congrArg Prod.snd h)
  · have hp : partOf i = 3 := by unfold partOf; rw [c]; rfl
    have b1 : Lm.bitP (partOf i) 1 = true := by rw [hp]; decide
    have b2 : Lm.bitP (partOf i) 2 = true := by rw [hp]; decide
    have fr : freshO i.op = false := by rw [c]; decide
    have ak : asksO i.op = true := by rw [c]; decide
    have hb := hb (by rw [c]; decide)
    subst hb
    replace hs := hs b2
    replace hd := hd b1 fr
    refine ⟨(doF 5 (vg s.R i.dst) (vg s.R i.src) s.f), [], s.b, s.b, false, 0, 0, ?_, ?_, ?_, ?_, ?_⟩
    · simp [deedM, formD, c, loadM, storeM, binM, binOp, binY, shiftM, shN, negM, condM]
    · simp [deedM, formD, c, loadM, storeM, binM, binOp, binY, shiftM, shN, negM, condM, hA, hs, hd]
    · intro _; rfl
    · intro h; cases h
    · rw [hw, ak]; intro h; cases (show false = true from congrArg Prod.snd h)
  · have hp : partOf i = 5 := by unfold partOf; rw [c]; rfl
    have b1 : Lm.bitP (partOf i) 1 = true := by rw [hp]; decide
    have b2 : Lm.bitP (partOf i) 2 = false := by rw [hp]; decide
    have fr : freshO i.op = false := by rw [c]; decide
    have ak : asksO i.op = true := by rw [c]; decide
    have hb := hb (by rw [c]; decide)
    subst hb
    replace hd := hd b1 fr
    refine ⟨(doF 3 (vg s.R i.dst) i.imm s.f), [], s.b, s.b, false, 0, 0, ?_, ?_, ?_, ?_, ?_⟩
    · simp [deedM, formD, c, loadM, storeM, binM, binOp, binY, shiftM, shN, negM, condM]
    · simp [deedM, formD, c, loadM, storeM, binM, binOp, binY, shiftM, shN, negM, condM, hA, hd]
    · intro _; rfl
    · intro h; cases h
    · rw [hw, ak]; intro h; cases (show false = true from congrArg Prod.snd h)
  · have hp : partOf i = 65 := by unfold partOf; rw [c]; rfl
    have b1 : Lm.bitP (partOf i) 1 = true := by rw [hp]; decide
    have b2 : Lm.bitP (partOf i) 2 = false := by rw [hp]; decide
    have fr : freshO i.op = false := by rw [c]; decide
    have ak : asksO i.op = false := by rw [c]; decide
    have hb := hb (by rw [c]; decide)
    subst hb
    replace hd := hd b1 fr
    refine ⟨s.f, [], s.b, s.b, true, (if holdsB i.cond s.f = true then orU (andN8 (vg s.R i.dst)) 1 else andN8 (vg s.R i.dst)), 0, ?_, ?_, ?_, ?_, ?_⟩
    · cases ha : holdsB i.cond s.f <;> simp [deedM, formD, c, loadM, storeM, binM, binOp, binY, shiftM, shN, negM, condM, ha]
    · cases ha : holdsB i.cond s.f <;> simp [deedM, formD, c, loadM, storeM, binM, binOp, binY, shiftM, shN, negM, condM, ha, hA, hd]
    · intro _; rfl
    · intro _; exact ⟨rfl, by rw [hw, ak, b1]; rfl⟩
    · intro _ _; exact .inl rfl
  · have hp : partOf i = 3 := by unfold partOf; rw [c]; rfl
    have b1 : Lm.bitP (partOf i) 1 = true := by rw [hp]; decide
    have b2 : Lm.bitP (partOf i) 2 = true := by rw [hp]; decide
    have fr : freshO i.op = true := by rw [c]; decide
    have ak : asksO i.op = false := by rw [c]; decide
    have hb := hb (by rw [c]; decide)
    subst hb
    replace hs := hs b2
    refine ⟨s.f, [], s.b, s.b, true, (low8 (vg s.R i.src)), 0, ?_, ?_, ?_, ?_, ?_⟩
    · simp [deedM, formD, c, loadM, storeM, binM, binOp, binY, shiftM, shN, negM, condM]
    · simp [deedM, formD, c, loadM, storeM, binM, binOp, binY, shiftM, shN, negM, condM, hA, hs]
    · intro _; rfl
    · intro _; exact ⟨rfl, by rw [hw, ak, b1]; rfl⟩
    · intro _ _; exact .inl rfl
  · have hp : partOf i = 67 := by unfold partOf; rw [c]; rfl
    have b1 : Lm.bitP (partOf i) 1 = true := by rw [hp]; decide
    have b2 : Lm.bitP (partOf i) 2 = true := by rw [hp]; decide
    have fr : freshO i.op = false := by rw [c]; decide
    have ak : asksO i.op = false := by rw [c]; decide
    have hb := hb (by rw [c]; decide)
    subst hb
    replace hs := hs b2
    replace hd := hd b1 fr
    refine ⟨s.f, [], s.b, s.b, (holdsB i.cond s.f), (vg s.R i.src), 0, ?_, ?_, ?_, ?_, ?_⟩
    · cases ha : holdsB i.cond s.f <;> simp [deedM, formD, c, loadM, storeM, binM, binOp, binY, shiftM, shN, negM, condM, ha]
    · cases ha : holdsB i.cond s.f <;> simp [deedM, formD, c, loadM, storeM, binM, binOp, binY, shiftM, shN, negM, condM, ha, hA, hs, hd]
    · intro _; rfl
    · intro _; exact ⟨rfl, by rw [hw, ak, b1]; rfl⟩
    · intro _ _; exact .inr (hdr b1 fr)
theorem vg_ne (R : List Int) (d v j : Int) (hd : 0 ≤ d) (hj : 0 ≤ j) (h : j ≠ d) : vg (R.set d.toNat v) j = vg R j := by
  unfold vg
  rw [List.getD_eq_getElem?_getD, List.getD_eq_getElem?_getD, List.getElem?_set_ne (by omega)]
structure Apart (i : Amd) (s : Mst) (r x : Int) (A B : Mst × Int) : Prop where
  e : A.2 = B.2
  f : A.1.f = B.1.f
  at_ : A.1.at_ = B.1.at_
  steps : A.1.steps = B.1.steps
  seen : A.1.seen = B.1.seen
  same : writesE i = (r, true) → A.2 = 0 → A.1.R = B.1.R
  less : ¬ (writesE i = (r, true) ∧ A.2 = 0) → vg A.1.R r = vg s.R r ∧ vg B.1.R r = x ∧ A.1.R.set r.toNat x = B.1.R
theorem step_apart {i : Amd} (hm : Lm.mayOne i = true) (h17 : i.op ≠ 17) (h18 : i.op ≠ 18) (s : Mst) (h0 : s.at_ = 0) (hR : s.R.length = 16) (r x : Int) (hr0 : 0 ≤ r) (hr : r < 16) (hn : r ∉ readsE i) :
    Apart i s r x (stepM [] [i] s) (stepM [] [i] { s with R := s.R.set r.toNat x, b := (stepM [] [i] s).1.b }) := by
  obtain ⟨b', hb'⟩ : ∃ b', b' = (stepM [] [i] s).1.b := ⟨_, rfl⟩
  rw [← hb']
  have hnp : r ∉ readsP i (partOf i) := by
    unfold readsE at hn
    rw [if_pos hm, riseL_mem] at hn
    exact hn
  have vx : vg (s.R.set r.toNat x) r = x := vg_set _ _ _ hr0 (by omega)
  have hat : s.at_.toNat = 0 := by rw [h0]; rfl
  unfold stepM at hb' ⊢
  simp only [hat, List.getElem?_cons_zero] at hb' ⊢
  have hwo : i.op = 19 ∨ i.op = 20 → writesE i = (0, false) := fun h => by
    have hp : Lm.bitP (partOf i) 1 = false := by
      unfold partOf
      rcases h with h | h <;> rw [h] <;> decide
    unfold writesE
    rw [hp, Bool.and_false]
    rfl
  by_cases h19 : i.op = 19
  · rw [if_pos h19, if_pos h19]
    refine ⟨rfl, rfl, rfl, rfl, rfl, fun h => ?_, fun _ => ⟨rfl, vx, rfl⟩⟩
    rw [hwo (.inl h19)] at h; cases h
  rw [if_neg h19] at hb'
  rw [if_neg h19, if_neg h19]
  by_cases h20 : i.op = 20
  · rw [if_pos h20, if_pos h20]
    refine ⟨rfl, rfl, rfl, rfl, rfl, fun h => ?_, fun _ => ⟨rfl, vx, rfl⟩⟩
    rw [hwo (.inr h20)] at h; cases h
  rw [if_neg h20] at hb'
  rw [if_neg h20, if_neg h20]
  have hb := isReg_b (mayOne_r hm).dst
  obtain ⟨S, hS⟩ : ∃ S : Mst, S = { s with steps := IntKind.i64.wrap (s.steps + 1), at_ := IntKind.i64.wrap (s.at_ + 1) } := ⟨_, rfl⟩
  obtain ⟨F0, Q0, B0, B0', W0, V0, E0, c1, _, c3, _⟩ := deed_form [] [i] hm h17 h18 h19 h20 S S.R S.b (fun _ _ => rfl) (fun _ => rfl)
  have hbs : i.op ≠ 4 → b' = S.b := fun h4 => by
    rw [← hS, c1] at hb'
    rw [← c3 h4, hb']
    split <;> rfl
  obtain ⟨F, Q, B, B', W, V, E, d1, d2, _, w1, w2⟩ := deed_form [] [i] hm h17 h18 h19 h20 S (s.R.set r.toNat x) b' (fun j hj => by
    have hjn : j ≠ r := fun e => hnp (e ▸ hj)
    rw [show S.R = s.R by rw [hS]]
    have hj0 : 0 ≤ j := by
      have hR2 := mayOne_r hm
      rcases (mem_reads i _ _).1 hj with ⟨h, rfl⟩ | ⟨h, rfl⟩ | ⟨h, rfl⟩ | ⟨h, rfl⟩ | ⟨h, rfl⟩
      · exact (isReg_b (may_regs hm).2).1
      · exact (isReg_b (may_regs hm).1).1
      · decide
      · exact hb.1
      · exact (isReg_b hR2.src).1
    exact vg_ne _ _ _ _ hr0 hj0 hjn) hbs
  have e1 : deedM [] [i] i { s with steps := IntKind.i64.wrap (s.steps + 1), at_ := IntKind.i64.wrap (s.at_ + 1) } = formD i F Q B W V E S := by rw [← d1, hS]
  have e2 : deedM [] [i] i { s with R := s.R.set r.toNat x, b := b', steps := IntKind.i64.wrap (s.steps + 1), at_ := IntKind.i64.wrap (s.at_ + 1) } = formD i F Q B' W V E { S with R := s.R.set r.toNat x, b := b' } := by rw [← d2, hS]
  rw [e1, e2]
  have SR : S.R = s.R := by rw [hS]
  clear d1 d2 e1 e2 hS c1 c3 hbs hb'
  have body : ∀ a, Apart i s r x ({ formD i F Q B W V E S |>.1 with at_ := a }, E) ({ formD i F Q B' W V E { S with R := s.R.set r.toNat x, b := b' } |>.1 with at_ := a }, E) := by
    intro a
    refine ⟨rfl, rfl, rfl, rfl, rfl, fun hw he => ?_, fun hne => ?_⟩
    · have hd : i.dst = r := by
        unfold writesE at hw
        split at hw
        · exact congrArg Prod.fst hw
        · cases hw
      have hW : W = true := by
        rcases w2 (by rw [hd]; exact hw) he with h | h
        · exact h
        · rw [hd] at h; exact absurd h hnp
      show (if W = true then S.R.set i.dst.toNat V else S.R) = (if W = true then (s.R.set r.toNat x).set i.dst.toNat V else s.R.set r.toNat x)
      rw [if_pos hW, if_pos hW, hd, SR, List.set_set]
    · show vg (if W = true then S.R.set i.dst.toNat V else S.R) r = _ ∧ vg (if W = true then (s.R.set r.toNat x).set i.dst.toNat V else s.R.set r.toNat x) r = x ∧ (if W = true then S.R.set i.dst.toNat V else S.R).set r.toNat x = (if W = true then (s.R.set r.toNat x).set i.dst.toNat V else s.R.set r.toNat x)
      rw [SR]
      cases W
      · exact ⟨rfl, vx, rfl⟩
      · have hdn : r ≠ i.dst := fun e => hne ⟨by rw [e]; exact (w1 rfl).2, (w1 rfl).1⟩
        simp only [if_true]
        exact ⟨vg_ne _ _ _ _ hb.1 hr0 hdn, by rw [vg_ne _ _ _ _ hb.1 hr0 hdn]; exact vx, List.set_comm _ _ (by omega)⟩
  by_cases hE : E = 0
  · have hE1 : (formD i F Q B W V E S).2 = 0 := hE
    have hE2 : (formD i F Q B' W V E { S with R := s.R.set r.toNat x, b := b' }).2 = 0 := hE
    rw [if_pos hE1, if_pos hE2]
    exact body S.at_
  · have hE1 : ¬ (formD i F Q B W V E S).2 = 0 := hE
    have hE2 : ¬ (formD i F Q B' W V E { S with R := s.R.set r.toNat x, b := b' }).2 = 0 := hE
    rw [if_neg hE1, if_neg hE2]
    exact body _
end Go.Proofs
