/- Registers told: register, each. -/
import Derived.Test.YtganjkhdlehhdaaGreatCY1toCY4
import Derived.Test.YtganjkhdlehhdaaGreatCWBtoRL6
import Derived.Test.YtganjkhdlehhdaaGreatRLP
import Derived.Test.YtganjkhdlehhdaaGreatCX7toCZ2
import Derived.Test.YtganjkhdlehhdaaGreatAVEtoAVI
import Derived.Test.YtganjkhdlehhdaaGreatFwJmptoAMG
import Derived.Test.YtganjkhdlehhdaaGreatAMTtoAVH
import Derived.Test.YtganjkhdlehhdaaGreatRL4toAMS
import Derived.Test.YtganjkhdlehhdaaGreatRM6toRM7
import Derived.Test.YtganjkhdlehhdaaGreatAMPtoAMR
set_option linter.unusedVariables false
set_option linter.unusedSimpArgs false
set_option maxHeartbeats 4000000
set_option maxRecDepth 100000
namespace Go.Proofs
open Go.Mu
end Go.Proofs
namespace Go.Proofs
open Go.Mu
structure InsIn (vars : Int) (x : Ins) : Prop where
  kd : x.kind = 1 ∨ x.kind = 2 ∨ x.kind = 3 ∨ x.kind = 4 ∨ x.kind = 5
  d : x.kind ≠ 5 → 0 ≤ x.d ∧ x.d < vars
  a : x.kind = 2 ∨ x.kind = 3 → 0 ≤ x.a ∧ x.a < vars
  a' : x.kind = 4 ∨ x.kind = 5 → x.a = -1 ∨ (0 ≤ x.a ∧ x.a < vars)
  b : x.kind = 3 → 6 ≤ x.op → 0 ≤ x.b ∧ x.b < vars
  b' : x.kind = 5 → 0 ≤ x.b ∧ x.b < vars
  c : x.kind = 3 → x.op = 21 → 0 ≤ x.c ∧ x.c < vars
  op : x.kind = 3 → 4 ≤ x.op ∧ x.op ≤ 21
end Go.Proofs
namespace Go.Proofs
open Go.Mu
end Go.Proofs
namespace Go.Proofs
open Go.Mu
end Go.Proofs
namespace Go.Proofs
open Go.Mu
theorem numsB_map : ∀ l : List Int, numsB (l.map fun x => [Y x]) = some l
  | [] => rfl
  | x :: l => by
    show (numsB (l.map fun x => [Y x])).map (x :: ·) = _
    rw [numsB_map l]; rfl
theorem zeroB_R : zeroB = zeroR := by
  refine List.ext_getElem? fun i => ?_
  by_cases hi : i < 65536
  · have h1 := zeroB_get i
    rw [List.getD_eq_getElem?_getD, List.getElem?_eq_getElem (by rw [zeroB_len]; exact hi)] at h1
    rw [List.getElem?_eq_getElem (by rw [zeroB_len]; exact hi)]
    simp only [Option.getD_some] at h1
    rw [h1, zeroR, List.getElem?_replicate, if_pos hi]
  · rw [List.getElem?_eq_none (by rw [zeroB_len]; omega), List.getElem?_eq_none (by rw [zeroR_len]; omega)]
theorem wordsL_len (lay : List Rg) (b : List Int) : (wordsL lay b).length = lay.length := by simp [wordsL]
theorem wordsL_in {lay : List Rg} (ho : ∀ r ∈ lay, r.Ok) (b : List Int) : ∀ x ∈ wordsL lay b, x.length ≤ 2^40 := fun x hx => by
  obtain ⟨r, hr, rfl⟩ := List.mem_map.1 hx
  have := (ho r hr).s2
  simp [wordsR]
  omega
theorem sameMem_ok {M : List Blk} {k kb k2 : Nat} {lay : List Rg} {b : List Int} (m : MemAt M k kb lay b) (m2 : RefV M k2 lay b) (hl : lay.length ≤ 16) (ho : ∀ r ∈ lay, r.Ok) : ACalls Tryz.prog 13 [.bp k 0, .bp k2 0] M (fun e M' => e = .ret (Bo true) ∧ M' = M) := by
  refine acalls_of_vc (hn := fun _ => false) (od := fun _ => none) Tryz.func13 rfl (by kernel_rfl) ?_
  have c1 := mwords_ok m hl ho
  have c2 := rwordsV_ok m2 hl ho
  have c3 := fun H => swords_ok (wordsL lay b) (by rw [wordsL_len]; omega) (wordsL_in ho b) H
  have c4 := mstackE_ok m
  have hE2 : (b.map fun x => [Y x]).drop 49152 = ((b.drop 49152).take 16384).map fun x => [Y x] := by
    rw [← List.map_drop, List.take_of_length_le (by rw [List.length_drop, m2.len]; decide)]
  have hEl : (b.map fun x => [Y x]).length = 65536 := by rw [List.length_map, m2.len]
  have hn := numsB_map ((b.drop 49152).take 16384)
  obtain ⟨E, hE⟩ : ∃ E, E = ((b.drop 49152).take 16384).map fun x => [Y x] := ⟨_, rfl⟩
  obtain ⟨F, hF⟩ : ∃ F, F = b.map fun x => [Y x] := ⟨_, rfl⟩
  obtain ⟨W, hW⟩ : ∃ W, W = wordsL lay b := ⟨_, rfl⟩
  obtain ⟨z, hz⟩ : ∃ z, z = (b.drop 49152).take 16384 := ⟨_, rfl⟩
  have g2 := m2.me
  have nb := neqM k 0
  rw [← hF] at g2 hE2 hEl
  rw [← hE] at hE2 hn c4
  rw [← hz] at hn
  rw [← hW] at c1 c2 c3
  clear hE hF hW hz
  have htk : List.take 65536 F = F := List.take_of_length_le (by omega)
  simp -dsimp [nb]
  refine callDW_intro c1 ?_
  simp -dsimp
  refine callDW_intro c2 ?_
  simp -dsimp
  refine callDW_intro (c3 _) ?_
  simp -dsimp
  refine callDW_intro c4 ?_
  simp -dsimp [hn, g2, hE2, hEl, htk]
abbrev GN (H : List Blk) (l : List Rg) (b c : List Int) : List Blk := H ++ [byB b, meB l H.length, rowY c, rfB (Rg.sl l) (H.length + 2)]
theorem fillR_eq (l : List Rg) (w : List (List Int)) : fillTo zeroR l w l.length = fillB l w := by rw [fillB, zeroB_R]
theorem memory_ok (r : List Rg) (w : List (List Int)) (hm : mayL r = true) (hf : fitsL r w = true) (H : List Blk) : ACalls Tryz.prog 9 [Rg.sl r, Us.sl w] H (fun e H' => e = .ret (.tup [.bp (H.length + 1) 0, .bp (H.length + 3) 0, Bo true]) ∧ H' = GN H r (fillB r w) (fillB r w)) := by
  refine acalls_of_awp Tryz.func9 rfl (by kernel_rfl) ?_
  have co := mof_ok r w hm hf H
  have hl := (mayL_ok hm).1
  have cn := rnew_ok r hl (H ++ [byB (fillB r w), meB r H.length])
  have hlen : (H ++ [byB (fillB r w), meB r H.length]).length = H.length + 2 := by simp
  rw [hlen] at cn
  obtain ⟨N, hN⟩ : ∃ N, N = H ++ [byB (fillB r w), meB r H.length] ++ [rowY zeroR, rfB (Rg.sl r) (H.length + 2)] := ⟨_, rfl⟩
  have mN : RefAt N (H.length + 3) (H.length + 2) (Rg.sl r) zeroR := ⟨by rw [hN, List.getElem?_append_right (by simp)]; simp, by rw [hN, List.getElem?_append_right (by simp)]; simp, zeroR_len⟩
  have cf := rfill_ok r w hm hf mN
  rw [fillR_eq] at cf
  have hset : N.set (H.length + 2) (rowY (fillB r w)) = GN H r (fillB r w) (fillB r w) := by rw [hN, List.set_append_right _ _ (by simp)]; simp [GN]
  rw [hset] at cf
  clear hset mN
  obtain ⟨G, hG⟩ : ∃ G, G = GN H r (fillB r w) (fillB r w) := ⟨_, rfl⟩
  rw [← hG] at cf ⊢
  rw [← hN] at cn
  clear hG hN
  obtain ⟨O, hO⟩ : ∃ O, O = H ++ [byB (fillB r w), meB r H.length] := ⟨_, rfl⟩
  have hgm : GM H r (fillB r w) = O := hO.symm
  rw [hgm] at co
  rw [← hO] at cn
  have cm := law19_num
  have nb := neqM (H.length + 1) 0
  refine awp_cut (fun _ => false) (fun _ => none) (fun f M => M = H ++ [] ∧ f 0 = Rg.sl r ∧ f 1 = Us.sl w) (by kernel_rfl) ?_ ?_
  · simp -dsimp
  rintro f M ⟨hM, f0, f1⟩
  rw [List.append_nil] at hM
  rw [hM]; clear hM M
  refine awp_cut (fun _ => false) (fun _ => none) (fun f M => M = O ∧ f 0 = Rg.sl r ∧ f 1 = Us.sl w ∧ f 7 = .bp (H.length + 1) 0 ∧ f 8 = I 0) (by kernel_rfl) ?_ ?_
  · simp -dsimp [f0, f1]
    refine acallsW_of co ?_
    rintro e _ ⟨rfl, rfl⟩
    simp -dsimp [f0, f1]
  clear f0 f1 f
  rintro f M ⟨hM, f0, f1, f7, f8⟩
  rw [hM]; clear hM M
  refine awp_cut (fun _ => false) (fun _ => none) (fun f M => M = N ∧ f 0 = Rg.sl r ∧ f 1 = Us.sl w ∧ f 7 = .bp (H.length + 1) 0 ∧ f 8 = I 0 ∧ f 9 = .bp (H.length + 3) 0) (by kernel_rfl) ?_ ?_
  · simp -dsimp [f0, f1, f7, f8]
    refine acallsW_of cn ?_
    rintro e _ ⟨rfl, rfl⟩
    simp -dsimp [f0, f1, f7, f8]
  clear f0 f1 f7 f8 f
  rintro f M ⟨hM, f0, f1, f7, f8, f9⟩
  rw [hM]; clear hM M
  refine awp_cut (fun _ => false) (fun _ => none) (fun f M => M = G ∧ f 7 = .bp (H.length + 1) 0 ∧ f 8 = I 0 ∧ f 9 = .bp (H.length + 3) 0) (by kernel_rfl) ?_ ?_
  · simp -dsimp [f0, f1, f7, f8, f9]
    refine acallsW_of cf ?_
    rintro e _ ⟨rfl, rfl⟩
    simp -dsimp [f7, f8, f9]
  clear f0 f1 f7 f8 f9 f
  rintro f M ⟨hM, f7, f8, f9⟩
  rw [hM]; clear hM M
  refine awp_all (hn := fun _ => false) (od := fun _ => none) (by kernel_rfl) ?_
  simp -dsimp [f7, f8, f9]
  refine acallsW_det (cm _ _) ?_
  simp -dsimp [f7, f8, f9, nb]
theorem unfit_ok (r : List Rg) (w : List (List Int)) (hr : r.length ≤ 2^40) (H : List Blk) : ACalls Tryz.prog 7 [Rg.sl r, Us.sl w] H (fun e H' => (e = .ret (Bo true) ∨ e = .ret (Bo false) ∧ mayL r = true ∧ fitsL r w = true) ∧ H' = H) := by
  refine acalls_of_vc (hn := fun _ => false) (od := fun _ => none) Tryz.func7 rfl (by kernel_rfl) ?_
  have cl := fun H => rglong_ok r hr H
  have cm := fun H => rmmay_ok r hr H
  have cf := fun H => rmfits_ok r w hr H
  obtain ⟨a, ha⟩ : ∃ a, a = mayL r := ⟨_, rfl⟩
  obtain ⟨b, hb⟩ : ∃ b, b = fitsL r w := ⟨_, rfl⟩
  rw [← ha] at cm ⊢
  rw [← hb] at cf ⊢
  simp -dsimp
  refine acallsW_of (cl _) ?_
  rintro e _ ⟨⟨c, rfl⟩, rfl⟩
  cases c
  · simp -dsimp
    obtain ⟨d, hd⟩ : ∃ d, d = decide ((40 : Int) < (w.length : Int)) := ⟨_, rfl⟩
    rw [← hd]
    cases d
    · simp -dsimp
      refine acallsW_det (cm _) ?_
      cases a
      · simp -dsimp
      · simp -dsimp
        refine acallsW_det (cf _) ?_
        cases b
        · simp -dsimp
        · simp -dsimp
    · simp -dsimp
  · simp -dsimp
end Go.Proofs
namespace Go.Proofs
open Go.Mu
theorem astep_bad (l : List Amd) (hll : l.length ≤ 2^40) (s : Mst) (hR : s.R.length = 16) (hbad : Lm.mayA l = false ∨ s.at_ < 0 ∨ l.length < s.at_) {lay : List Rg} (hl : lay.length ≤ 16) {b : List Int} {H : List Blk} {k kb : Nat} (m : MemAt H k kb lay b) :
    ACalls Tryz.prog 10 [Lm.Amd.sl l, .agg (stC s), .bp k 0] H (fun e M' => e = .ret (.tup [.agg stZ, nilS, I 2]) ∧ M' = H) := by
  refine acalls_tidy (acalls_of_awp Tryz.func10 rfl (by kernel_rfl) ?_)
  obtain ⟨sc, hsc⟩ : ∃ sc, sc = stC s := ⟨_, rfl⟩
  have hsl : sc.length = 23 := by rw [hsc]; exact stC_len hR
  have d21 : sc.drop 21 = [I s.at_, I s.steps] := by
    rw [hsc]; unfold stC
    rw [show (21 : Nat) = (Regs s.R).length + 5 by simp [hR], ← List.drop_drop, List.drop_left]
    rfl
  rw [← hsc]
  clear hsc
  have hz : stZ = [U 0, U 0, U 0, U 0, U 0, U 0, U 0, U 0, U 0, U 0, U 0, U 0, U 0, U 0, U 0, U 0, Bo false, Bo false, Bo false, Bo false, Bo false, I 0, I 0] := rfl
  refine awp_cut (fun _ => false) (fun _ => none) (fun f M => M = H ++ [.box 28 sc, .box 28 stZ] ∧ f 0 = Lm.Amd.sl l ∧ f 2 = .bp k 0 ∧ f 4 = .bp H.length 0 ∧ f 6 = .bp (H.length + 1) 0) (by kernel_rfl) ?_ ?_
  · simp -dsimp [hsl]
    rfl
  rintro f M ⟨hM, f0, f2, f4, f6⟩
  have mM : MemAt M k kb lay b := by rw [hM]; exact ⟨get_app_old m.me _, get_app_old m.bytes _, m.len⟩
  have cc := mcopy_ok mM hl
  have eM := fun k o => eqM k o
  refine awp_cut (fun _ => false) (fun _ => none) (fun f M' => M' = M ++ [byB b, meB lay M.length] ∧ f 0 = Lm.Amd.sl l ∧ f 4 = .bp H.length 0 ∧ f 6 = .bp (H.length + 1) 0) (by kernel_rfl) ?_ ?_
  · simp -dsimp [f0, f2, f4, f6]
    refine acallsW_of cc ?_
    rintro e _ ⟨rfl, rfl⟩
    simp -dsimp [f0, f2, f4, f6, eM]
  clear f0 f2 f4 f6 f
  rintro f M2 ⟨hM2, f0, f4, f6⟩
  have co := Lm.open_ok l hll M2
  obtain ⟨p, hp⟩ : ∃ p, p = (if Lm.mayA l = true then AV.bp (M2.length + 3) 0 else .v (.pointer none)) := ⟨_, rfl⟩
  obtain ⟨c, hc⟩ : ∃ c, c = Lm.mayA l := ⟨_, rfl⟩
  rw [← hp, ← hc] at co
  rw [← hc] at hbad
  refine awp_cut (fun _ => false) (fun _ => none) (fun f M' => (∃ L, M' = M2 ++ L) ∧ f 0 = Lm.Amd.sl l ∧ f 4 = .bp H.length 0 ∧ f 6 = .bp (H.length + 1) 0 ∧ f 10 = Bo c) (by kernel_rfl) ?_ ?_
  · simp -dsimp [f0, f4, f6]
    refine acallsW_of co ?_
    rintro e _ ⟨t, C, rfl, rfl, -⟩
    simp -dsimp [f0, f4, f6]
  clear f0 f4 f6 f
  rintro f M3 ⟨⟨L3, hM3⟩, f0, f4, f6, f10⟩
  have hM3' : M3 = H ++ (.box 28 sc :: .box 28 stZ :: (byB b :: meB lay M.length :: L3)) := by rw [hM3, hM2, hM]; simp
  obtain ⟨T, hT⟩ : ∃ T, T = byB b :: meB lay M.length :: L3 := ⟨_, rfl⟩
  rw [← hT] at hM3'
  clear hM3 hM2 hM hT cc mM co
  have g4 : M3[H.length]? = some (.box 28 sc) := by rw [hM3']; simp
  have g6 : M3[H.length + 1]? = some (.box 28 stZ) := by rw [hM3']; simp
  have s6 : ∀ Z, M3.set (H.length + 1) (.box 28 Z) = H ++ (.box 28 sc :: .box 28 Z :: T) := fun Z => by
    rw [hM3', List.set_append_right _ _ (by omega), Nat.add_sub_cancel_left]; rfl
  have g9 : ∀ Z, (H ++ (Blk.box 28 sc :: .box 28 Z :: T))[H.length + 1]? = some (.box 28 Z) := fun Z => by simp
  clear hM3'
  refine awp_cut (fun _ => false) (fun _ => none) (fun f M' => False) (by kernel_rfl) ?_ ?_
  rotate_left
  · rintro f M ⟨⟩
  rw [hz] at g6
  rw [hz]
  clear hz
  rcases hbad with h | h | h
  · subst h
    simp -dsimp [f0, f4, f6, f10, g6, s6, g9]
    exact tidy_same rfl ⟨rfl, rfl⟩
  · have d1 : decide (s.at_ < 0) = true := decide_eq_true h
    cases c
    all_goals simp -dsimp [f0, f4, f6, f10, g4, g6, s6, g9, d1, d21, hsl]
    all_goals exact tidy_same rfl ⟨rfl, rfl⟩
  · have d1 : decide (s.at_ < 0) = false := decide_eq_false (by omega)
    have d2 : decide ((l.length : Int) < s.at_) = true := decide_eq_true h
    cases c
    all_goals simp -dsimp [f0, f4, f6, f10, g4, g6, s6, g9, d1, d2, d21, hsl]
    all_goals exact tidy_same rfl ⟨rfl, rfl⟩
theorem deed_bytes (lay : List Rg) (l : List Amd) (i : Amd) (s : Mst) (h : BytesOk s.b) : BytesOk (deedM lay l i s).1.b := by
  have hc : (condM i s).b = s.b := by unfold condM; split; rfl; split <;> rfl
  have hj : (jumpM l i s).b = s.b := by unfold jumpM; split <;> rfl
  have hb : (binM i s).b = s.b := by unfold binM; split <;> rfl
  have hl : (loadM lay i s).1.b = s.b := by unfold loadM; simp only; split <;> rfl
  have hs : BytesOk (storeM lay i s).1.b := by
    unfold storeM
    simp only
    split
    · exact bytes_put h _ _
    · exact h
  unfold deedM
  repeat' split
  all_goals first | exact h | exact hs | (simp only [hl]; exact h) | (simp only [hc]; exact h) | (simp only [hj]; exact h) | (simp only [hb]; exact h)
theorem step_facts (lay : List Rg) (l : List Amd) (hr : ∀ i ∈ l, Wd i.imm) (s : Mst) (hs : MsR s) (hsn : s.seen = []) (h0 : 0 ≤ s.at_) (h1 : s.at_ ≤ l.length) (hl : l.length ≤ 2^40) (hb : BytesOk s.b) : (stepM lay l s).1.R.length = 16 ∧ (stepM lay l s).1.seen.length ≤ 1 ∧ BytesOk (stepM lay l s).1.b ∧ (stepM lay l s).1.b.length = 65536 := by
  unfold stepM
  cases hi : l[s.at_.toNat]? with
  | none => exact ⟨hs.R, by simp [hsn], hb, hs.b⟩
  | some i =>
    simp only
    split
    · exact ⟨hs.R, by simp [hsn], hb, hs.b⟩
    split
    · exact ⟨hs.R, by simp [hsn], hb, hs.b⟩
    have hlt := (List.getElem?_eq_some_iff.1 hi).1
    have wat : IntKind.i64.wrap (s.at_ + 1) = s.at_ + 1 := wrapI (by omega) (by omega)
    rw [wat]
    have d := deed_ok lay l i (hr i (List.mem_of_getElem? hi)) { s with steps := IntKind.i64.wrap (s.steps + 1), at_ := s.at_ + 1 } ⟨hs.R, hs.W, hs.seen, hs.b⟩ (by simp [hsn]) (by show 0 ≤ s.at_ + 1; omega) (by show s.at_ + 1 ≤ (l.length : Int); omega)
    have db := deed_bytes lay l i { s with steps := IntKind.i64.wrap (s.steps + 1), at_ := s.at_ + 1 } hb
    obtain ⟨d1, _, d3, _⟩ := d
    simp only [hsn, List.length_nil, Nat.zero_add] at d3
    split
    · exact ⟨d1.R, by simpa [hsn] using d3, db, d1.b⟩
    · exact ⟨d1.R, by simpa [hsn] using d3, db, d1.b⟩
end Go.Proofs
