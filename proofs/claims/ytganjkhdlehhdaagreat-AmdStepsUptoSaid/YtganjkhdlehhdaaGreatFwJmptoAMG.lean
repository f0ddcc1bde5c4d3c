/- A scope in which the run jumps back to one label. -/
import Derived.Test.YtganjkhdlehhdaaGreatFwQtoFwT
import Derived.ScopeJumps
import Derived.Test.YtganjkhdlehhdaaGreatCL1toRL2
import Derived.Test.YtganjkhdlehhdaaGreatFwSeqNtoCWA
import Derived.Test.YtganjkhdlehhdaaGreatFwUtoFwBox
import Derived.Test.YtganjkhdlehhdaaGreatAM4toAM5
import Derived.Test.YtganjkhdlehhdaaGreatKN22toKN40
set_option linter.unusedVariables false
set_option linter.unusedSimpArgs false
set_option maxHeartbeats 4000000
set_option maxRecDepth 100000
namespace Go.Mu
open Go.RowKit (Below)
section
variable {P : Program} {n : Nat}
end
end Go.Mu
namespace Go.Proofs
open Go.Mu
theorem se_frzB (l : List Se) : (l.map Se.cells).flatten.all AV.frzB = true := by
  induction l with
  | nil => rfl
  | cons x l ih => rw [List.map_cons, List.flatten_cons, List.all_append, ih]; simp [AV.frzB]
abbrev seB (s : List Se) : Blk := ownB 78 3 (s.map Se.cells)
abbrev seS (k : Nat) (s : List Se) : AV := ownS k (s.map Se.cells)
section
variable {l : Linear} {lay : List Rg} {H : List Blk} {k kb n kv ka ko : Nat} {M : List Blk} {V b : List Int} {r : List Int} {s : List Se} {st er : Int}
end
section
variable {l : Linear} {lay : List Rg} {H : List Blk} {k kb n kv ka ko : Nat} {M : List Blk} {V b : List Int} {r : List Int} {s : List Se} {st er : Int}
end
end Go.Proofs
namespace Go.Proofs
open Go.Mu
abbrev Amd := Lm.Amd
abbrev Regs (R : List Int) : List AV := R.map fun x => U x
def addrE (i : Amd) (R : List Int) : Int :=
  let x := wU i.disp
  let y := if i.hasBase = true ∧ Lm.isReg i.base = true then wU (x + vg R i.base) else x
  if i.hasIndex = true ∧ Lm.isReg i.index = true then wU (y + wU (8 * vg R i.index)) else y
theorem regs_get {R : List Int} (h : R.length = 16) {i : Int} (hi : Lm.isReg i = true) : (Regs R)[i.toNat]? = some (U (vg R i)) := by
  unfold Lm.isReg at hi
  simp only [Bool.and_eq_true, decide_eq_true_eq] at hi
  rw [List.getElem?_map, vg_at hi.1 (by omega)]
  rfl
theorem isReg_b {i : Int} (hi : Lm.isReg i = true) : 0 ≤ i ∧ i < 16 := by
  unfold Lm.isReg at hi
  simp only [Bool.and_eq_true, decide_eq_true_eq] at hi
  omega
theorem address_ok (i : Amd) (R : List Int) (hR : R.length = 16) (H : List Blk) : ACalls Tryz.prog 23 [.agg [I i.base, I i.index, Bo i.hasBase, Bo i.hasIndex, I i.disp], .agg (Regs R)] H (fun e H' => e = .ret (U (addrE i R)) ∧ H' = H) := by
  refine acalls_tidy (acalls_of_vc (hn := fun _ => false) (od := fun _ => none) Tryz.func23 rfl (by kernel_rfl) ?_)
  have c := Lm.reg_is_ok
  obtain ⟨E, hE⟩ : ∃ E, E = addrE i R := ⟨_, rfl⟩
  rw [← hE]
  unfold addrE at hE
  obtain ⟨op, bin, sh, co, dst, src, imm, base, index, hb, hi, disp, lab⟩ := i
  have hl : (Regs R).length = 16 := by simpa using hR
  have gb := fun h => regs_get hR (i := base) h
  have gi := fun h => regs_get hR (i := index) h
  have bb := fun h => isReg_b (i := base) h
  have bi := fun h => isReg_b (i := index) h
  simp only at hE ⊢
  obtain ⟨rb, hrb⟩ : ∃ b, b = Lm.isReg base := ⟨_, rfl⟩
  obtain ⟨ri, hri⟩ : ∃ b, b = Lm.isReg index := ⟨_, rfl⟩
  have cb := fun H => c base H
  have ci := fun H => c index H
  rw [← hrb] at gb bb hE cb
  rw [← hri] at gi bi hE ci
  obtain ⟨A, hA⟩ : ∃ A, A = Regs R := ⟨_, rfl⟩
  rw [← hA] at gb gi hl ⊢
  clear hA c hrb hri
  cases hb <;> cases hi <;> cases rb <;> cases ri
  all_goals simp -dsimp
  all_goals repeat' first
    | (refine acallsW_det (cb _) ?_; simp -dsimp [gb, gi, hl])
    | (refine acallsW_det (ci _) ?_; simp -dsimp [gb, gi, hl])
    | (refine andVW_intro (bb rfl) ?_; simp -dsimp [gb, gi, hl])
    | (refine andVW_intro (bi rfl) ?_; simp -dsimp [gb, gi, hl])
  all_goals first
    | exact tidy_same rfl ⟨by rw [hE]; simp [wU], rfl⟩
end Go.Proofs
namespace Go.Proofs
open Go.Mu
structure Mst where
  R : List Int
  f : Fl
  at_ : Int
  steps : Int
  seen : List Se
  b : List Int
def mcl (ks kp kme : Nat) (s : Mst) : List AV := Regs s.R ++ [Bo s.f.c, Bo s.f.z, Bo s.f.s, Bo s.f.o, Bo s.f.p, I s.at_, I s.steps, .bp kp 0, .bp kme 0, seS ks s.seen]
def macB (ks kp kme : Nat) (s : Mst) : Blk := .box 88 (mcl ks kp kme s)
section
variable {ks kp kme : Nat} {s : Mst}
theorem mcl_len (h : s.R.length = 16) : (mcl ks kp kme s).length = 26 := by simp [mcl, h]
theorem mcl_d16 (h : s.R.length = 16) : (mcl ks kp kme s).drop 16 = [Bo s.f.c, Bo s.f.z, Bo s.f.s, Bo s.f.o, Bo s.f.p, I s.at_, I s.steps, .bp kp 0, .bp kme 0, seS ks s.seen] := by
  unfold mcl
  rw [List.drop_append_of_le_length (by simp [h]), List.drop_eq_nil_of_le (by simp [h])]
  rfl
theorem mcl_dk (h : s.R.length = 16) (k : Nat) : (mcl ks kp kme s).drop (16 + k) = [Bo s.f.c, Bo s.f.z, Bo s.f.s, Bo s.f.o, Bo s.f.p, I s.at_, I s.steps, .bp kp 0, .bp kme 0, seS ks s.seen].drop k := by
  rw [← List.drop_drop, mcl_d16 h]
theorem mcl_t16 (h : s.R.length = 16) : (mcl ks kp kme s).take 16 = Regs s.R := by
  unfold mcl
  rw [List.take_append_of_le_length (by simp [h]), List.take_of_length_le (by simp [h])]
theorem mcl_get (h : s.R.length = 16) {i : Int} (hi : Lm.isReg i = true) : (mcl ks kp kme s)[i.toNat]? = some (U (vg s.R i)) := by
  have := isReg_b hi
  unfold mcl
  rw [List.getElem?_append_left (by simp; omega)]
  exact regs_get h hi
theorem spl_set {α : Type} (cs : List α) (i : Nat) (x : α) (h : i < cs.length) : spl cs i [x] = cs.set i x := by
  unfold spl
  rw [List.set_eq_take_append_cons_drop, if_pos h]
  simp
theorem mcl_reg (h : s.R.length = 16) (i : Int) (hi : Lm.isReg i = true) (w : Int) : spl (mcl ks kp kme s) i.toNat [U w] = mcl ks kp kme { s with R := s.R.set i.toNat w } := by
  have hb := isReg_b hi
  rw [spl_set _ _ _ (by rw [mcl_len h]; omega)]
  unfold mcl
  rw [List.set_append_left _ _ (by simp; omega)]
  simp [List.map_set]
theorem mcl_at (h : s.R.length = 16) (a : Int) : spl (mcl ks kp kme s) 21 [I a] = mcl ks kp kme { s with at_ := a } := by
  rw [spl_set _ _ _ (by rw [mcl_len h]; omega)]
  unfold mcl
  rw [List.set_append_right _ _ (by simp [h])]
  simp [h]
theorem mcl_steps (h : s.R.length = 16) (a : Int) : spl (mcl ks kp kme s) 22 [I a] = mcl ks kp kme { s with steps := a } := by
  rw [spl_set _ _ _ (by rw [mcl_len h]; omega)]
  unfold mcl
  rw [List.set_append_right _ _ (by simp [h])]
  simp [h]
theorem mcl_seen (h : s.R.length = 16) (q : List Se) : spl (mcl ks kp kme s) 25 [seS ks q] = mcl ks kp kme { s with seen := q } := by
  rw [spl_set _ _ _ (by rw [mcl_len h]; omega)]
  unfold mcl
  rw [List.set_append_right _ _ (by simp [h])]
  simp [h]
theorem mcl_flags (h : s.R.length = 16) (f : Fl) : spl (mcl ks kp kme s) 16 f.cells = mcl ks kp kme { s with f := f } := by
  unfold spl
  rw [mcl_t16 h, mcl_dk h f.cells.length]
  simp [mcl]
end
structure GA (G : Mst → List Blk) (M : List Blk) (km kp ka kme kb ks : Nat) (l : List Amd) (lay : List Rg) : Prop where
  len : ∀ s, (G s).length = M.length
  mac : ∀ s L, (G s ++ L)[km]? = some (macB ks kp kme s)
  macs : ∀ s L Z, ((G s ++ L).set ks Z)[km]? = some (macB ks kp kme s)
  prg : ∀ s L, (G s ++ L)[kp]? = some (.box 137 [Lm.Amd.sl l, .hm ka])
  tab : ∀ s L, (G s ++ L)[ka]? = some (.map (Lm.tabM (Lm.labsA l 0)))
  mem : ∀ s L, s.b.length = 65536 → MemAt (G s ++ L) kme kb lay s.b
  row : ∀ s L, (G s ++ L)[ks]? = some (seB s.seen)
  sm : ∀ s s' L, s'.seen = s.seen → s'.b = s.b → (G s ++ L).set km (macB ks kp kme s') = G s' ++ L
  sb : ∀ s b' L, (G s ++ L).set kb (byB b') = G { s with b := b' } ++ L
  ss : ∀ s q L, ((G s ++ L).set ks (seB q)).set km (macB ks kp kme { s with seen := q }) = G { s with seen := q } ++ L
  und : ∀ s s' n, M.length ≤ n → underH n (G s') = true → underH n (G s) = true
  old : ∀ s L i, i ≠ km → i ≠ kb → i ≠ ks → i < M.length → (G s ++ L)[i]? = M[i]?
theorem mac_under {n ks kp kme : Nat} (s : Mst) (h1 : ks < n) (h2 : kp < n) (h3 : kme < n) : (macB ks kp kme s).under n = true := by
  unfold macB mcl
  simp only [Blk.under]
  rw [underL_all, List.all_append, Bool.and_eq_true, ← underL_all]
  refine ⟨underL_frzB _ _ (fun c hc => by obtain ⟨x, _, rfl⟩ := List.mem_map.1 hc; rfl), ?_⟩
  simp [AV.under, h1, h2, h3, under_ownS]
theorem GA.mk' {M : List Blk} {km kp ka kme kb ks : Nat} {l : List Amd} {lay : List Rg} {s0 : Mst} (hd : [km, kp, ka, kme, kb, ks].Nodup)
    (h1 : M[km]? = some (macB ks kp kme s0)) (h2 : M[kp]? = some (.box 137 [Lm.Amd.sl l, .hm ka])) (h3 : M[ka]? = some (.map (Lm.tabM (Lm.labsA l 0)))) (h4 : MemAt M kme kb lay s0.b) (h5 : M[ks]? = some (seB s0.seen)) :
    ∃ G, GA G M km kp ka kme kb ks l lay ∧ M = G s0 ∧ ∀ s, G s = ((M.set ks (seB s.seen)).set kb (byB s.b)).set km (macB ks kp kme s) := by
  obtain ⟨m1, m2, m3⟩ := h4
  have l1 := lt_of_get h1
  have l2 := lt_of_get h2
  have l3 := lt_of_get h3
  have l4 := lt_of_get m1
  have l5 := lt_of_get m2
  have l6 := lt_of_get h5
  simp only [List.nodup_cons, List.mem_cons, List.not_mem_nil, or_false, not_or, not_false_eq_true, List.nodup_nil, and_true] at hd
  obtain ⟨⟨a1, a2, a3, a4, a5⟩, ⟨b1, b2, b3, b4⟩, ⟨c1, c2, c3⟩, ⟨d1, d2⟩, e1⟩ := hd
  refine ⟨fun s => ((M.set ks (seB s.seen)).set kb (byB s.b)).set km (macB ks kp kme s), ⟨fun s => by simp, fun s L => ?_, fun s L Z => ?_, fun s L => ?_, fun s L => ?_, fun s L hb => ⟨?_, ?_, hb⟩, fun s L => ?_, fun s s' L q1 q2 => ?_, fun s b' L => ?_, fun s q L => ?_, fun s s' n hn hu => ?_, fun s L i i1 i2 i3 i4 => ?_⟩, ?_, fun s => rfl⟩
  all_goals try rw [List.getElem?_append_left (by simp; assumption)]
  · rw [List.getElem?_set_self (by simpa using l1)]
  · rw [List.getElem?_set_ne (fun e => a5 e.symm), List.getElem?_append_left (by simpa using l1), List.getElem?_set_self (by simpa using l1)]
  · rw [List.getElem?_set_ne a1, List.getElem?_set_ne (fun e => b3 e.symm), List.getElem?_set_ne (fun e => b4 e.symm), h2]
  · rw [List.getElem?_set_ne a2, List.getElem?_set_ne (fun e => c2 e.symm), List.getElem?_set_ne (fun e => c3 e.symm), h3]
  · rw [List.getElem?_set_ne a3, List.getElem?_set_ne (fun e => d1 e.symm), List.getElem?_set_ne (fun e => d2 e.symm), m1]
  · rw [List.getElem?_set_ne a4, List.getElem?_set_self (by simpa using l5)]
  · rw [List.getElem?_set_ne a5, List.getElem?_set_ne e1, List.getElem?_set_self l6]
  · rw [List.set_append_left _ _ (by simpa using l1), List.set_set, q1, q2]
  · rw [List.set_append_left _ _ (by simpa using l5), List.set_comm _ _ a4, List.set_set]
    rfl
  · rw [List.set_append_left _ _ (by simpa using l6), List.set_append_left _ _ (by simpa using l1), List.set_comm _ _ a5, List.set_set, List.set_comm _ _ e1, List.set_set]
  · have e : ((M.set ks (seB s.seen)).set kb (byB s.b)).set km (macB ks kp kme s) = (((((M.set ks (seB s'.seen)).set kb (byB s'.b)).set km (macB ks kp kme s')).set ks (seB s.seen)).set kb (byB s.b)).set km (macB ks kp kme s) := by
      apply List.ext_getElem?
      intro j
      by_cases j1 : j = km
      · subst j1; rw [List.getElem?_set_self (by simpa using l1), List.getElem?_set_self (by simpa using l1)]
      · rw [List.getElem?_set_ne (fun e => j1 e.symm), List.getElem?_set_ne (fun e => j1 e.symm)]
        by_cases j2 : j = kb
        · subst j2; rw [List.getElem?_set_self (by simpa using l5), List.getElem?_set_self (by simpa using l5)]
        · rw [List.getElem?_set_ne (fun e => j2 e.symm), List.getElem?_set_ne (fun e => j2 e.symm)]
          by_cases j3 : j = ks
          · subst j3; rw [List.getElem?_set_self l6, List.getElem?_set_self (by simpa using l6)]
          · rw [List.getElem?_set_ne (fun e => j3 e.symm), List.getElem?_set_ne (fun e => j3 e.symm), List.getElem?_set_ne (fun e => j1 e.symm), List.getElem?_set_ne (fun e => j2 e.symm), List.getElem?_set_ne (fun e => j3 e.symm)]
    rw [e]
    exact underH_set (underH_set (underH_set hu (under_ownB_plain (se_frzB _))) (by_under _ _)) (mac_under s (by omega) (by omega) (by omega))
  · rw [List.getElem?_set_ne (fun e => i1 e.symm), List.getElem?_set_ne (fun e => i2 e.symm), List.getElem?_set_ne (fun e => i3 e.symm)]
  · show M = ((M.set ks (seB s0.seen)).set kb (byB s0.b)).set km (macB ks kp kme s0)
    rw [setSelf h5, setSelf m2, setSelf h1]
theorem GA.app {G : Mst → List Blk} {M : List Blk} {km kp ka kme kb ks : Nat} {l : List Amd} {lay : List Rg} (gg : GA G M km kp ka kme kb ks l lay) (X : List Blk) : GA (fun s => G s ++ X) (M ++ X) km kp ka kme kb ks l lay := by
  have lm : ∀ {k : Nat} {x : Mst → Blk}, (∀ s L, (G s ++ L)[k]? = some (x s)) → ∀ s L, (G s ++ X ++ L)[k]? = some (x s) := fun h s L => by rw [List.append_assoc]; exact h s (X ++ L)
  have lt : km < M.length ∧ kb < M.length ∧ ks < M.length := by
    have h := fun s => gg.len s
    have e0 : Mst := ⟨[], ⟨false, false, false, false, false⟩, 0, 0, [], List.replicate 65536 0⟩
    have h1 := lt_of_get (by have := gg.mac ⟨[], ⟨false, false, false, false, false⟩, 0, 0, [], List.replicate 65536 0⟩ []; rw [List.append_nil] at this; exact this)
    have h2 := lt_of_get (by have := (gg.mem ⟨[], ⟨false, false, false, false, false⟩, 0, 0, [], List.replicate 65536 0⟩ [] List.length_replicate).bytes; rw [List.append_nil] at this; exact this)
    have h3 := lt_of_get (by have := gg.row ⟨[], ⟨false, false, false, false, false⟩, 0, 0, [], List.replicate 65536 0⟩ []; rw [List.append_nil] at this; exact this)
    rw [h] at h1 h2 h3
    exact ⟨h1, h2, h3⟩
  refine ⟨fun s => by simp [gg.len], lm gg.mac, fun s L Z => ?_, lm gg.prg, lm gg.tab, fun s L hb => ?_, lm gg.row, fun s s' L q1 q2 => ?_, fun s b' L => ?_, fun s q L => ?_, fun s s' n hn hu => ?_, fun s L i i1 i2 i3 i4 => ?_⟩
  · rw [List.append_assoc]; exact gg.macs s (X ++ L) Z
  · show MemAt (G s ++ X ++ L) _ _ _ _
    rw [List.append_assoc]; exact gg.mem s (X ++ L) hb
  · rw [List.append_assoc, List.append_assoc]; exact gg.sm s s' (X ++ L) q1 q2
  · rw [List.append_assoc, List.append_assoc]; exact gg.sb s b' (X ++ L)
  · rw [List.append_assoc, List.append_assoc]; exact gg.ss s q (X ++ L)
  · simp only [List.length_append] at hn
    simp only [underH, List.all_append, Bool.and_eq_true] at hu ⊢
    have h1 := gg.und s s' n (by omega) (by simp only [underH]; exact hu.1)
    simp only [underH] at h1
    exact ⟨h1, hu.2⟩
  · rw [List.append_assoc]
    by_cases h : i < M.length
    · rw [gg.old s (X ++ L) i i1 i2 i3 h, List.getElem?_append_left h]
    · have i5 : i < M.length + X.length := by rw [← List.length_append]; exact i4
      have e1 : (M ++ X)[i]? = X[i - M.length]? := List.getElem?_append_right (by omega)
      rw [e1, List.getElem?_append_right (by rw [gg.len]; omega), gg.len, List.getElem?_append_left (by omega)]
theorem GA.fin {G : Mst → List Blk} {M : List Blk} {km kp ka kme kb ks : Nat} {l : List Amd} {lay : List Rg} (gg : GA G M km kp ka kme kb ks l lay) {s0 s : Mst} {L : List Blk} {R : AE → List Blk → Prop} {r : AV} (hr : r.under M.length = true) (h : R (.ret r) (G s)) : Tidy (G s0) R (.ret r) (G s ++ L) :=
  tidy_to (by rw [gg.len, gg.len]; exact Nat.le_refl _) (fun hu => by rw [gg.len] at hu ⊢; exact gg.und s s0 _ (Nat.le_refl _) hu) (by rw [gg.len]; exact hr) h
end Go.Proofs
namespace Go.Proofs
open Go.Mu
section
variable {km kp kme ks : Nat}
theorem dset2_ok (i : Amd) (hs : Lm.isReg i.src = true) (s : Mst) (hR : s.R.length = 16) (H : List Blk) (hm : H[km]? = some (macB ks kp kme s)) :
    ACalls Tryz.prog 73 [.bp km 0, .agg i.cells] H (fun e M' => e = .ret (U (vg s.R i.src)) ∧ M' = H) := by
  refine acalls_tidy (acalls_of_vc (hn := fun _ => false) (od := fun _ => none) Tryz.func73 rfl (by kernel_rfl) ?_)
  obtain ⟨op, bin, sh, co, dst, src, imm, base, index, hb, hi, disp, lab⟩ := i
  have mac : ∀ X, (H ++ X)[km]? = some (.box 88 (mcl ks kp kme s)) := fun X => get_app_old hm X
  have gr := mcl_get (ks := ks) (kp := kp) (kme := kme) hR hs
  have br := isReg_b hs
  simp only at gr br
  simp -dsimp [mac]
  refine andVW_intro br ?_
  simp -dsimp [mac, gr]
  exact tidy_same rfl ⟨rfl, rfl⟩
theorem dset3_ok (i : Amd) (k : Nat) (H : List Blk) :
    ACalls Tryz.prog 74 [.bp k 0, .agg i.cells] H (fun e M' => e = .ret (U i.imm) ∧ M' = H) := by
  refine acalls_tidy (acalls_of_vc (hn := fun _ => false) (od := fun _ => none) Tryz.func74 rfl (by kernel_rfl) ?_)
  simp -dsimp
  exact tidy_same rfl ⟨rfl, rfl⟩
theorem dset4_ok (i : Amd) (hs : Lm.isReg i.dst = true) (s : Mst) (hR : s.R.length = 16) (H : List Blk) (hm : H[km]? = some (macB ks kp kme s)) :
    ACalls Tryz.prog 75 [.bp km 0, .agg i.cells] H (fun e M' => e = .ret (U (notU (vg s.R i.dst))) ∧ M' = H) := by
  refine acalls_tidy (acalls_of_vc (hn := fun _ => false) (od := fun _ => none) Tryz.func75 rfl (by kernel_rfl) ?_)
  obtain ⟨op, bin, sh, co, dst, src, imm, base, index, hb, hi, disp, lab⟩ := i
  have mac : ∀ X, (H ++ X)[km]? = some (.box 88 (mcl ks kp kme s)) := fun X => get_app_old hm X
  have gr := mcl_get (ks := ks) (kp := kp) (kme := kme) hR hs
  have br := isReg_b hs
  have hu := unx
  simp only at gr br
  simp -dsimp [mac]
  refine andVW_intro br ?_
  simp -dsimp [mac, gr, hu]
  exact tidy_same rfl ⟨rfl, rfl⟩
def low8 (x : Int) : Int := andU x 255
theorem dset5_ok (i : Amd) (hs : Lm.isReg i.src = true) (s : Mst) (hR : s.R.length = 16) (H : List Blk) (hm : H[km]? = some (macB ks kp kme s)) :
    ACalls Tryz.prog 76 [.bp km 0, .agg i.cells] H (fun e M' => e = .ret (U (low8 (vg s.R i.src))) ∧ M' = H) := by
  refine acalls_tidy (acalls_of_vc (hn := fun _ => false) (od := fun _ => none) Tryz.func76 rfl (by kernel_rfl) ?_)
  obtain ⟨op, bin, sh, co, dst, src, imm, base, index, hb, hi, disp, lab⟩ := i
  have mac : ∀ X, (H ++ X)[km]? = some (.box 88 (mcl ks kp kme s)) := fun X => get_app_old hm X
  have gr := mcl_get (ks := ks) (kp := kp) (kme := kme) hR hs
  have br := isReg_b hs
  simp only at gr br
  simp -dsimp [mac]
  refine andVW_intro br ?_
  simp -dsimp [mac, gr]
  exact tidy_same rfl ⟨rfl, rfl⟩
end
section
variable {G : Mst → List Blk} {M : List Blk} {km kp ka kme kb ks : Nat} {l : List Amd} {lay : List Rg}
theorem dset_ok (gg : GA G M km kp ka kme kb ks l lay) (g : FuncId) (hg : okFn Tryz.prog g = true) (i : Amd) (hd : Lm.isReg i.dst = true) (s : Mst) (hR : s.R.length = 16) (v : Int)
    (he : ∀ H, H[km]? = some (macB ks kp kme s) → ACalls Tryz.prog g [.bp km 0, .agg i.cells] H (fun e M' => e = .ret (U v) ∧ M' = H)) :
    ACalls Tryz.prog 72 [.bp km 0, .agg i.cells, .vp [.fn (.func g) [] []]] (G s) (fun e M' => e = .ret (I 0) ∧ M' = G { s with R := s.R.set i.dst.toNat v }) := by
  refine acalls_tidy (acalls_of_vc (hn := fun _ => false) (od := fun _ => none) Tryz.func72 rfl (by kernel_rfl) ?_)
  obtain ⟨op, bin, sh, co, dst, src, imm, base, index, hb, hi, disp, lab⟩ := i
  have mac : ∀ X, (G s ++ X)[km]? = some (.box 88 (mcl ks kp kme s)) := fun X => gg.mac s X
  have sp := mcl_reg (ks := ks) (kp := kp) (kme := kme) hR dst hd v
  have st : ∀ X, astore (G s ++ X) (.bp km dst.toNat) [U v] = some (G { s with R := s.R.set dst.toNat v } ++ X) := fun X => by
    have hb := isReg_b hd
    simp only at hb
    simp only [astore, mac, mcl_len hR, List.length_singleton]
    rw [if_pos (by omega), sp]
    congr 1
    exact gg.sm s { s with R := s.R.set dst.toNat v } X rfl rfl
  have br := isReg_b hd
  have he := fun X => he (G s ++ X) (gg.mac s X)
  simp only [Lm.Amd.cells] at he br
  simp -dsimp [mac, hg]
  refine callDW_intro (he _) ?_
  simp -dsimp [mac]
  refine andVW_intro br ?_
  simp -dsimp [mac, st]
  exact gg.fin rfl ⟨rfl, rfl⟩
end
end Go.Proofs
namespace Go.Proofs
open Go.Mu
section
variable {G : Mst → List Blk} {M : List Blk} {km kp ka kme kb ks : Nat} {l : List Amd} {lay : List Rg}
theorem mcl_d21 {s : Mst} (h : s.R.length = 16) : (mcl ks kp kme s).drop 21 = [I s.at_, I s.steps, .bp kp 0, .bp kme 0, seS ks s.seen] := mcl_dk h 5
theorem mcl_d22 {s : Mst} (h : s.R.length = 16) : (mcl ks kp kme s).drop 22 = [I s.steps, .bp kp 0, .bp kme 0, seS ks s.seen] := mcl_dk h 6
theorem mcl_d23 {s : Mst} (h : s.R.length = 16) : (mcl ks kp kme s).drop 23 = [.bp kp 0, .bp kme 0, seS ks s.seen] := mcl_dk h 7
theorem mcl_d24 {s : Mst} (h : s.R.length = 16) : (mcl ks kp kme s).drop 24 = [.bp kme 0, seS ks s.seen] := mcl_dk h 8
theorem mcl_d25 {s : Mst} (h : s.R.length = 16) : (mcl ks kp kme s).drop 25 = [seS ks s.seen] := mcl_dk h 9
def andN8 (x : Int) : Int := x / 256 * 256
theorem anN8 {x : Int} (h : Wd x) : binI .andNot .u64 x 255 = some (.int .u64 (andN8 x)) := by
  obtain ⟨h0, h1⟩ := h
  obtain ⟨n, rfl⟩ := Int.eq_ofNat_of_zero_le h0
  have e : (BitVec.ofInt 64 (n : Int) &&& ~~~(BitVec.ofInt 64 255)) = (BitVec.ofInt 64 (n : Int) >>> 8) <<< 8 := by
    apply BitVec.eq_of_getLsbD_eq
    intro i hi
    have : (BitVec.ofInt 64 255) = 255#64 := rfl
    rw [this]
    simp only [BitVec.getLsbD_and, BitVec.getLsbD_not, BitVec.getLsbD_shiftLeft, BitVec.getLsbD_ushiftRight]
    have h255 : (255#64).getLsbD i = decide (i < 8) := by
      have : (255 : Nat) = 2 ^ 8 - 1 := rfl
      rw [BitVec.getLsbD_ofNat]
      simp only [hi, decide_true, Bool.true_and]
      rw [this, Nat.testBit_two_pow_sub_one]
    rw [h255]
    by_cases h8 : i < 8
    · simp [h8]
    · have : 8 + (i - 8) = i := by omega
      simp [h8, hi, this]
  have r : binI .andNot .u64 (n : Int) 255 = some (.int .u64 (IntKind.u64.wrap ((BitVec.ofInt 64 (n : Int) &&& ~~~(BitVec.ofInt 64 255)).toNat))) := rfl
  rw [r, e]
  congr 2
  rw [BitVec.toNat_shiftLeft, BitVec.toNat_ushiftRight, BitVec.toNat_ofInt, Nat.shiftLeft_eq, Nat.shiftRight_eq_div_pow, IntKind.wrap_u64]
  unfold andN8
  omega
theorem vgA_set (R : List Int) (d v : Int) (h0 : 0 ≤ d) (h : d < R.length) : vg (R.set d.toNat v) d = v := by
  unfold vg
  rw [List.getD_eq_getElem?_getD, List.getElem?_set_self (by omega)]
  rfl
theorem wd_addr (i : Amd) (R : List Int) : Wd (addrE i R) := by
  unfold addrE
  simp only
  split
  · exact wd_wU _
  · split
    · exact wd_wU _
    · exact wd_wU _
theorem GA.stR (gg : GA G M km kp ka kme kb ks l lay) (s : Mst) (hR : s.R.length = 16) (d : Int) (hd : Lm.isReg d = true) (v : Int) (X : List Blk) : astore (G s ++ X) (.bp km d.toNat) [U v] = some (G { s with R := s.R.set d.toNat v } ++ X) := by
  have hb := isReg_b hd
  have mac := gg.mac s X
  simp only [astore, mac, macB, mcl_len hR, List.length_singleton]
  rw [if_pos (by omega), mcl_reg hR d hd v]
  congr 1
  exact gg.sm s { s with R := s.R.set d.toNat v } X rfl rfl
theorem GA.stA (gg : GA G M km kp ka kme kb ks l lay) (s : Mst) (hR : s.R.length = 16) (v : Int) (X : List Blk) : astore (G s ++ X) (.bp km 21) [I v] = some (G { s with at_ := v } ++ X) := by
  have mac := gg.mac s X
  simp only [astore, mac, macB, mcl_len hR, List.length_singleton]
  rw [if_pos (by omega), mcl_at hR v]
  congr 1
  exact gg.sm s { s with at_ := v } X rfl rfl
theorem GA.stT (gg : GA G M km kp ka kme kb ks l lay) (s : Mst) (hR : s.R.length = 16) (v : Int) (X : List Blk) : astore (G s ++ X) (.bp km 22) [I v] = some (G { s with steps := v } ++ X) := by
  have mac := gg.mac s X
  simp only [astore, mac, macB, mcl_len hR, List.length_singleton]
  rw [if_pos (by omega), mcl_steps hR v]
  congr 1
  exact gg.sm s { s with steps := v } X rfl rfl
theorem GA.stF (gg : GA G M km kp ka kme kb ks l lay) (s : Mst) (hR : s.R.length = 16) (c z y o p : Bool) (X : List Blk) : astore (G s ++ X) (.bp km 16) [Bo c, Bo z, Bo y, Bo o, Bo p] = some (G { s with f := ⟨c, z, y, o, p⟩ } ++ X) := by
  have mac := gg.mac s X
  have hf := mcl_flags (ks := ks) (kp := kp) (kme := kme) hR ⟨c, z, y, o, p⟩
  simp only [Fl.cells] at hf
  simp only [astore, mac, macB, mcl_len hR]
  rw [if_pos (by simp), hf]
  congr 1
  exact gg.sm s { s with f := ⟨c, z, y, o, p⟩ } X rfl rfl
theorem GA.stS (gg : GA G M km kp ka kme kb ks l lay) (s : Mst) (hR : s.R.length = 16) (q : List Se) (X : List Blk) : astore ((G s ++ X).set ks (seB q)) (.bp km 25) [seS ks q] = some (G { s with seen := q } ++ X) := by
  have mac := gg.macs s X (seB q)
  simp only [astore, mac, macB, mcl_len hR, List.length_singleton]
  rw [if_pos (by omega), mcl_seen hR q]
  congr 1
  exact gg.ss s q X
def jumpM (l : List Amd) (i : Amd) (s : Mst) : Mst :=
  if i.op = 18 then { s with seen := s.seen ++ [⟨true, holdsB i.cond s.f, 0⟩], at_ := if holdsB i.cond s.f = true then ((Lm.labsA l 0).lookup i.label).getD 0 else s.at_ }
  else { s with at_ := ((Lm.labsA l 0).lookup i.label).getD 0 }
theorem djump_ok (gg : GA G M km kp ka kme kb ks l lay) (i : Amd) (hc : 0 ≤ i.cond ∧ i.cond ≤ 15) (s : Mst) (hR : s.R.length = 16) (hs : s.seen.length ≤ 2^40) :
    ACalls Tryz.prog 83 [.bp km 0, .agg i.cells] (G s) (fun e M' => e = .ret (I 0) ∧ M' = G (jumpM l i s)) := by
  refine acalls_tidy (acalls_of_vc (hn := fun d => d == 28) (od := fun _ => none) Tryz.func83 rfl (by kernel_rfl) ?_)
  have ch := fun H => wholds_ok i.cond hc s.f H
  obtain ⟨op, bin, sh, co, dst, src, imm, base, index, hb, hi, disp, lab⟩ := i
  have mac : ∀ s X, (G s ++ X)[km]? = some (.box 88 (mcl ks kp kme s)) := fun s X => gg.mac s X
  have macs : ∀ s X Z, ((G s ++ X).set ks Z)[km]? = some (.box 88 (mcl ks kp kme s)) := fun s X Z => gg.macs s X Z
  have d16 := mcl_d16 (ks := ks) (kp := kp) (kme := kme) hR
  have d21 := mcl_d21 (ks := ks) (kp := kp) (kme := kme) hR
  have d23 := mcl_d23 (ks := ks) (kp := kp) (kme := kme) hR
  have d24 := mcl_d24 (ks := ks) (kp := kp) (kme := kme) hR
  have d25 := mcl_d25 (ks := ks) (kp := kp) (kme := kme) hR
  have ml := mcl_len (ks := ks) (kp := kp) (kme := kme) hR
  have t16 := mcl_t16 (ks := ks) (kp := kp) (kme := kme) hR
  have hrow := gg.row s
  have bx : ∀ s' (X : Blk) Y, (G s' ++ X :: Y)[(G s).length]? = some X := fun s' X Y => by rw [gg.len, ← gg.len s', List.getElem?_append_right (Nat.le_refl _), Nat.sub_self]; rfl
  have prg := gg.prg
  have tab : ∀ s X, mapEs (G s ++ X) (.hm ka) = some (Lm.tabM (Lm.labsA l 0)) := fun s X => by simp only [mapEs]; rw [gg.tab s X]
  have hf := Lm.tab_find lab (Lm.labsA l 0)
  have hgd := Lm.getDI (List.lookup lab (Lm.labsA l 0))
  simp only [Fl.cells] at ch
  have stA := gg.stA s hR
  obtain ⟨J, hJ⟩ : ∃ J, J = jumpM l ⟨op, bin, sh, co, dst, src, imm, base, index, hb, hi, disp, lab⟩ s := ⟨_, rfl⟩
  rw [← hJ]
  unfold jumpM at hJ
  simp only at hJ ch
  by_cases h18 : op = 18
  · subst h18
    rw [if_pos rfl] at hJ
    obtain ⟨tk, htk⟩ : ∃ tk, tk = holdsB co s.f := ⟨_, rfl⟩
    rw [← htk] at hJ ch
    simp -dsimp [mac, d16]
    refine callDW_intro (ch _) ?_
    simp -dsimp [mac, d25]
    obtain ⟨q, hq⟩ : ∃ q, q = s.seen ++ [(⟨true, tk, 0⟩ : Se)] := ⟨_, rfl⟩
    have hap : (s.seen.map Se.cells) ++ [[AV.v (Value.bool true), AV.v (Value.bool tk), AV.v (Value.int IntKind.u64 0)]] = q.map Se.cells := by rw [hq]; simp
    refine appendVW_own (k := ks) (es := s.seen.map Se.cells) (hrow _) (by rw [List.length_map]; show (s.seen.length + 1) * 16 ≤ _; omega) (by rw [List.length_map]; show s.seen.length + 1 ≤ _; omega) ?_
    simp only [hap]
    have stS := gg.stS s hR q
    obtain ⟨sq, hsq⟩ : ∃ sq, sq = seS ks q := ⟨_, rfl⟩
    obtain ⟨bq, hbq⟩ : ∃ bq, bq = seB q := ⟨_, rfl⟩
    have o1 : AV.one sq = true := by rw [hsq]; exact one_ownS _ _
    have o2 : avCells sq = some [sq] := by rw [hsq]; exact avCells_ownS _ _
    have e1 : ownS ks (q.map Se.cells) = sq := hsq.symm
    have e2 : ownB 78 3 (q.map Se.cells) = bq := hbq.symm
    rw [← hsq, ← hbq] at stS
    rw [← hq] at hJ
    have stA2 := gg.stA { s with seen := q } hR
    have d23b := mcl_d23 (ks := ks) (kp := kp) (kme := kme) (s := { s with seen := q }) hR
    simp -dsimp [e1, e2, macs, mac, o1, o2, stS]
    cases tk
    · simp -dsimp
      rw [hJ]
      exact gg.fin rfl ⟨rfl, rfl⟩
    · simp -dsimp [mac, bx, d23b, prg, tab, hf, hgd, stA2]
      rw [hJ]
      exact gg.fin rfl ⟨rfl, rfl⟩
  · have e18 : (op == 18) = false := by simp [h18]
    rw [if_neg h18] at hJ
    simp -dsimp [e18, mac, d23, prg, tab, hf, hgd, stA]
    rw [hJ]
    exact gg.fin rfl ⟨rfl, rfl⟩
def condM (i : Amd) (s : Mst) : Mst :=
  if i.op = 14 then { s with R := s.R.set i.dst.toNat (if holdsB i.cond s.f = true then orU (andN8 (vg s.R i.dst)) 1 else andN8 (vg s.R i.dst)) }
  else if holdsB i.cond s.f = true then { s with R := s.R.set i.dst.toNat (vg s.R i.src) } else s
theorem dcond_ok (gg : GA G M km kp ka kme kb ks l lay) (i : Amd) (hc : 0 ≤ i.cond ∧ i.cond ≤ 15) (hd : Lm.isReg i.dst = true) (hsr : Lm.isReg i.src = true) (s : Mst) (hR : s.R.length = 16) (hW : ∀ r, Wd (vg s.R r)) :
    ACalls Tryz.prog 82 [.bp km 0, .agg i.cells] (G s) (fun e M' => e = .ret (I 0) ∧ M' = G (condM i s)) := by
  refine acalls_tidy (acalls_of_vc (hn := fun _ => false) (od := fun _ => none) Tryz.func82 rfl (by kernel_rfl) ?_)
  have ch := fun H => wholds_ok i.cond hc s.f H
  obtain ⟨op, bin, sh, co, dst, src, imm, base, index, hb, hi, disp, lab⟩ := i
  have mac : ∀ s X, (G s ++ X)[km]? = some (.box 88 (mcl ks kp kme s)) := fun s X => gg.mac s X
  have macs : ∀ s X Z, ((G s ++ X).set ks Z)[km]? = some (.box 88 (mcl ks kp kme s)) := fun s X Z => gg.macs s X Z
  have d16 := mcl_d16 (ks := ks) (kp := kp) (kme := kme) hR
  have d21 := mcl_d21 (ks := ks) (kp := kp) (kme := kme) hR
  have d23 := mcl_d23 (ks := ks) (kp := kp) (kme := kme) hR
  have d24 := mcl_d24 (ks := ks) (kp := kp) (kme := kme) hR
  have d25 := mcl_d25 (ks := ks) (kp := kp) (kme := kme) hR
  have ml := mcl_len (ks := ks) (kp := kp) (kme := kme) hR
  have t16 := mcl_t16 (ks := ks) (kp := kp) (kme := kme) hR
  have hrow := gg.row s
  have bx : ∀ s' (X : Blk) Y, (G s' ++ X :: Y)[(G s).length]? = some X := fun s' X Y => by rw [gg.len, ← gg.len s', List.getElem?_append_right (Nat.le_refl _), Nat.sub_self]; rfl
  simp only [Fl.cells] at ch
  have gd := mcl_get (ks := ks) (kp := kp) (kme := kme) hR hd
  have gs := mcl_get (ks := ks) (kp := kp) (kme := kme) hR hsr
  have bd := isReg_b hd
  have bs := isReg_b hsr
  have stR := gg.stR s hR dst hd
  obtain ⟨J, hJ⟩ : ∃ J, J = condM ⟨op, bin, sh, co, dst, src, imm, base, index, hb, hi, disp, lab⟩ s := ⟨_, rfl⟩
  rw [← hJ]
  unfold condM at hJ
  simp only at hJ ch gd gs bd bs
  obtain ⟨tk, htk⟩ : ∃ tk, tk = holdsB co s.f := ⟨_, rfl⟩
  rw [← htk] at hJ ch
  have anN := anN8 (hW dst)
  by_cases h14 : op = 14
  · subst h14
    rw [if_pos rfl] at hJ
    have gd2 := mcl_get (ks := ks) (kp := kp) (kme := kme) (s := { s with R := s.R.set dst.toNat (andN8 (vg s.R dst)) }) (by simpa using hR) hd
    have stR2 := gg.stR { s with R := s.R.set dst.toNat (andN8 (vg s.R dst)) } (by simpa using hR) dst hd
    have hv2 : vg (s.R.set dst.toNat (andN8 (vg s.R dst))) dst = andN8 (vg s.R dst) := vgA_set _ _ _ (by omega) (by omega)
    simp only [hv2, List.set_set] at gd2 stR2
    simp -dsimp [mac, d16]
    refine callDW_intro (ch _) ?_
    simp -dsimp [mac]
    refine andVW_intro bd ?_
    simp -dsimp [mac, gd, anN]
    refine andVW_intro bd ?_
    simp -dsimp [mac, bx, gd, stR]
    cases tk
    · simp -dsimp
      rw [hJ]
      exact gg.fin rfl ⟨rfl, rfl⟩
    · simp -dsimp [mac, bx]
      refine andVW_intro bd ?_
      simp -dsimp [mac, bx, gd2]
      refine andVW_intro bd ?_
      have stR3 := stR2 (orU (andN8 (vg s.R dst)) 1)
      have hor : IntKind.u64.wrap ↑((andN8 (vg s.R dst) % 2 ^ IntKind.u64.bits).toNat ||| 1 % 2 ^ IntKind.u64.bits) = orU (andN8 (vg s.R dst)) 1 := rfl
      simp -dsimp [mac, bx, gd2, hor, stR3]
      rw [hJ]
      exact gg.fin rfl ⟨rfl, rfl⟩
  · have e14 : (op == 14) = false := by simp [h14]
    rw [if_neg h14] at hJ
    simp -dsimp [mac, d16, e14]
    refine callDW_intro (ch _) ?_
    simp -dsimp [mac, e14]
    cases tk
    · simp -dsimp
      rw [hJ]
      exact gg.fin rfl ⟨rfl, rfl⟩
    · simp -dsimp [mac]
      refine andVW_intro bs ?_
      simp -dsimp [mac, gs]
      refine andVW_intro bd ?_
      simp -dsimp [mac, gs, stR]
      rw [hJ]
      exact gg.fin rfl ⟨rfl, rfl⟩
def loadM (lay : List Rg) (i : Amd) (s : Mst) : Mst × Int :=
  (if askE lay (addrE i s.R) = 0 then { s with seen := s.seen ++ [⟨false, false, addrE i s.R⟩], R := s.R.set i.dst.toNat (getW s.b (addrE i s.R).toNat) } else { s with seen := s.seen ++ [⟨false, false, addrE i s.R⟩] }, askE lay (addrE i s.R))
theorem dload_ok (gg : GA G M km kp ka kme kb ks l lay) (hl : lay.length ≤ 16) (ho : ∀ r ∈ lay, r.Ok) (i : Amd) (hd : Lm.isReg i.dst = true) (s : Mst) (hR : s.R.length = 16) (hs : s.seen.length ≤ 2^40) (hbl : s.b.length = 65536) :
    ACalls Tryz.prog 77 [.bp km 0, .agg i.cells] (G s) (fun e M' => e = .ret (I (loadM lay i s).2) ∧ M' = G (loadM lay i s).1) := by
  refine acalls_tidy (acalls_of_vc (hn := fun d => d == 24) (od := fun _ => none) Tryz.func77 rfl (by kernel_rfl) ?_)
  obtain ⟨op, bin, sh, co, dst, src, imm, base, index, hb, hi, disp, lab⟩ := i
  have mac : ∀ s X, (G s ++ X)[km]? = some (.box 88 (mcl ks kp kme s)) := fun s X => gg.mac s X
  have macs : ∀ s X Z, ((G s ++ X).set ks Z)[km]? = some (.box 88 (mcl ks kp kme s)) := fun s X Z => gg.macs s X Z
  have d16 := mcl_d16 (ks := ks) (kp := kp) (kme := kme) hR
  have d21 := mcl_d21 (ks := ks) (kp := kp) (kme := kme) hR
  have d23 := mcl_d23 (ks := ks) (kp := kp) (kme := kme) hR
  have d24 := mcl_d24 (ks := ks) (kp := kp) (kme := kme) hR
  have d25 := mcl_d25 (ks := ks) (kp := kp) (kme := kme) hR
  have ml := mcl_len (ks := ks) (kp := kp) (kme := kme) hR
  have t16 := mcl_t16 (ks := ks) (kp := kp) (kme := kme) hR
  have hrow := gg.row s
  have bx : ∀ s' (X : Blk) Y, (G s' ++ X :: Y)[(G s).length]? = some X := fun s' X Y => by rw [gg.len, ← gg.len s', List.getElem?_append_right (Nat.le_refl _), Nat.sub_self]; rfl
  have ca := address_ok ⟨op, bin, sh, co, dst, src, imm, base, index, hb, hi, disp, lab⟩ s.R hR
  obtain ⟨A, hA⟩ : ∃ A, A = addrE ⟨op, bin, sh, co, dst, src, imm, base, index, hb, hi, disp, lab⟩ s.R := ⟨_, rfl⟩
  have wA : Wd A := by rw [hA]; exact wd_addr _ _
  rw [← hA] at ca
  have bd := isReg_b hd
  obtain ⟨J, hJ⟩ : ∃ J, J = loadM lay ⟨op, bin, sh, co, dst, src, imm, base, index, hb, hi, disp, lab⟩ s := ⟨_, rfl⟩
  rw [← hJ]
  unfold loadM at hJ
  simp only at hJ bd ca
  rw [← hA] at hJ
  · simp -dsimp [mac, ml, t16]
    refine callDW_intro (ca _) ?_
    simp -dsimp [mac, d25]
    obtain ⟨q, hq⟩ : ∃ q, q = s.seen ++ [(⟨false, false, A⟩ : Se)] := ⟨_, rfl⟩
    have hap : (s.seen.map Se.cells) ++ [[AV.v (Value.bool false), AV.v (Value.bool false), U A]] = q.map Se.cells := by rw [hq]; simp
    refine appendVW_own (k := ks) (es := s.seen.map Se.cells) (hrow _) (by rw [List.length_map]; show (s.seen.length + 1) * 16 ≤ _; omega) (by rw [List.length_map]; show s.seen.length + 1 ≤ _; omega) ?_
    simp only [hap]
    have stS := gg.stS s hR q
    obtain ⟨sq, hsq⟩ : ∃ sq, sq = seS ks q := ⟨_, rfl⟩
    obtain ⟨bq, hbq⟩ : ∃ bq, bq = seB q := ⟨_, rfl⟩
    have o1 : AV.one sq = true := by rw [hsq]; exact one_ownS _ _
    have o2 : avCells sq = some [sq] := by rw [hsq]; exact avCells_ownS _ _
    have e1 : ownS ks (q.map Se.cells) = sq := hsq.symm
    have e2 : ownB 78 3 (q.map Se.cells) = bq := hbq.symm
    rw [← hsq, ← hbq] at stS
    rw [← hq] at hJ
    have d24b := mcl_d24 (ks := ks) (kp := kp) (kme := kme) (s := { s with seen := q }) hR
    have stR := gg.stR { s with seen := q } hR dst hd
    have cl := fun X => mload_ok (gg.mem { s with seen := q } X hbl) hl ho A wA.1 wA.2
    simp -dsimp [e1, e2, macs, mac, o1, o2, stS, d24b]
    refine acallsW_det (cl _) ?_
    by_cases he : askE lay A = 0
    · rw [if_pos he, he] at hJ
      subst hJ
      simp -dsimp [he, mac, bx]
      refine andVW_intro bd ?_
      simp -dsimp [mac, stR]
      exact gg.fin rfl ⟨rfl, rfl⟩
    · rw [if_neg he] at hJ
      subst hJ
      have e0 : (askE lay A == 0) = false := by simp [he]
      simp -dsimp [e0]
      exact gg.fin rfl ⟨rfl, rfl⟩
def storeM (lay : List Rg) (i : Amd) (s : Mst) : Mst × Int :=
  ({ s with seen := s.seen ++ [⟨false, false, addrE i s.R⟩], b := if askE lay (addrE i s.R) = 0 then putW s.b (addrE i s.R).toNat (vg s.R i.src) else s.b }, askE lay (addrE i s.R))
theorem dstore_ok (gg : GA G M km kp ka kme kb ks l lay) (hl : lay.length ≤ 16) (ho : ∀ r ∈ lay, r.Ok) (i : Amd) (hsr : Lm.isReg i.src = true) (s : Mst) (hR : s.R.length = 16) (hs : s.seen.length ≤ 2^40) (hbl : s.b.length = 65536) :
    ACalls Tryz.prog 78 [.bp km 0, .agg i.cells] (G s) (fun e M' => e = .ret (I (storeM lay i s).2) ∧ M' = G (storeM lay i s).1) := by
  refine acalls_tidy (acalls_of_vc (hn := fun d => d == 22 || d == 38) (od := fun _ => none) Tryz.func78 rfl (by kernel_rfl) ?_)
  obtain ⟨op, bin, sh, co, dst, src, imm, base, index, hb, hi, disp, lab⟩ := i
  have mac : ∀ s X, (G s ++ X)[km]? = some (.box 88 (mcl ks kp kme s)) := fun s X => gg.mac s X
  have macs : ∀ s X Z, ((G s ++ X).set ks Z)[km]? = some (.box 88 (mcl ks kp kme s)) := fun s X Z => gg.macs s X Z
  have d16 := mcl_d16 (ks := ks) (kp := kp) (kme := kme) hR
  have d21 := mcl_d21 (ks := ks) (kp := kp) (kme := kme) hR
  have d23 := mcl_d23 (ks := ks) (kp := kp) (kme := kme) hR
  have d24 := mcl_d24 (ks := ks) (kp := kp) (kme := kme) hR
  have d25 := mcl_d25 (ks := ks) (kp := kp) (kme := kme) hR
  have ml := mcl_len (ks := ks) (kp := kp) (kme := kme) hR
  have t16 := mcl_t16 (ks := ks) (kp := kp) (kme := kme) hR
  have hrow := gg.row s
  have bx : ∀ s' (X : Blk) Y, (G s' ++ X :: Y)[(G s).length]? = some X := fun s' X Y => by rw [gg.len, ← gg.len s', List.getElem?_append_right (Nat.le_refl _), Nat.sub_self]; rfl
  have ca := address_ok ⟨op, bin, sh, co, dst, src, imm, base, index, hb, hi, disp, lab⟩ s.R hR
  obtain ⟨A, hA⟩ : ∃ A, A = addrE ⟨op, bin, sh, co, dst, src, imm, base, index, hb, hi, disp, lab⟩ s.R := ⟨_, rfl⟩
  have wA : Wd A := by rw [hA]; exact wd_addr _ _
  rw [← hA] at ca
  have bs := isReg_b hsr
  obtain ⟨J, hJ⟩ : ∃ J, J = storeM lay ⟨op, bin, sh, co, dst, src, imm, base, index, hb, hi, disp, lab⟩ s := ⟨_, rfl⟩
  rw [← hJ]
  unfold storeM at hJ
  simp only at hJ bs ca
  rw [← hA] at hJ
  · simp -dsimp [mac, ml, t16]
    refine callDW_intro (ca _) ?_
    simp -dsimp [mac, d25]
    obtain ⟨q, hq⟩ : ∃ q, q = s.seen ++ [(⟨false, false, A⟩ : Se)] := ⟨_, rfl⟩
    have hap : (s.seen.map Se.cells) ++ [[AV.v (Value.bool false), AV.v (Value.bool false), U A]] = q.map Se.cells := by rw [hq]; simp
    refine appendVW_own (k := ks) (es := s.seen.map Se.cells) (hrow _) (by rw [List.length_map]; show (s.seen.length + 1) * 16 ≤ _; omega) (by rw [List.length_map]; show s.seen.length + 1 ≤ _; omega) ?_
    simp only [hap]
    have stS := gg.stS s hR q
    obtain ⟨sq, hsq⟩ : ∃ sq, sq = seS ks q := ⟨_, rfl⟩
    obtain ⟨bq, hbq⟩ : ∃ bq, bq = seB q := ⟨_, rfl⟩
    have o1 : AV.one sq = true := by rw [hsq]; exact one_ownS _ _
    have o2 : avCells sq = some [sq] := by rw [hsq]; exact avCells_ownS _ _
    have e1 : ownS ks (q.map Se.cells) = sq := hsq.symm
    have e2 : ownB 78 3 (q.map Se.cells) = bq := hbq.symm
    rw [← hsq, ← hbq] at stS
    rw [← hq] at hJ
    have d24b := mcl_d24 (ks := ks) (kp := kp) (kme := kme) (s := { s with seen := q }) hR
    have gs := mcl_get (ks := ks) (kp := kp) (kme := kme) (s := { s with seen := q }) hR hsr
    have cl := fun X => mstore_ok (gg.mem { s with seen := q } X hbl) hl ho A wA.1 wA.2 (vg s.R src)
    have sb := gg.sb { s with seen := q }
    simp only at gs
    simp -dsimp [e1, e2, macs, mac, o1, o2, stS, d24b, bx]
    refine andVW_intro bs ?_
    simp -dsimp [mac, gs]
    refine acallsW_of (cl _) ?_
    rintro e _ ⟨rfl, rfl⟩
    rw [sb]
    simp -dsimp
    subst hJ
    exact gg.fin rfl ⟨rfl, rfl⟩
end
end Go.Proofs
namespace Go.Proofs
open Go.Mu
section
variable {G : Mst → List Blk} {M : List Blk} {km kp ka kme kb ks : Nat} {l : List Amd} {lay : List Rg}
def binOp (i : Amd) : Int := if i.op = 13 ∨ i.op = 11 then 3 else if i.op = 12 then 5 else i.bin
def binY (i : Amd) (s : Mst) : Int := if i.op = 13 ∨ i.op = 6 then i.imm else vg s.R i.src
def binM (i : Amd) (s : Mst) : Mst :=
  if i.op = 5 ∨ i.op = 6 then { s with f := doF (binOp i) (vg s.R i.dst) (binY i s) s.f, R := s.R.set i.dst.toNat (doV (binOp i) (vg s.R i.dst) (binY i s) s.f) }
  else { s with f := doF (binOp i) (vg s.R i.dst) (binY i s) s.f }
theorem dbin_ok (gg : GA G M km kp ka kme kb ks l lay) (i : Amd) (hop : i.op = 5 ∨ i.op = 6 ∨ i.op = 11 ∨ i.op = 12 ∨ i.op = 13) (hbn : i.op = 5 ∨ i.op = 6 → 1 ≤ i.bin ∧ i.bin ≤ 8) (hi : Wd i.imm) (hd : Lm.isReg i.dst = true) (hsr : Lm.isReg i.src = true) (s : Mst) (hR : s.R.length = 16) (hW : ∀ r, Wd (vg s.R r)) :
    ACalls Tryz.prog 79 [.bp km 0, .agg i.cells] (G s) (fun e M' => e = .ret (I 0) ∧ M' = G (binM i s)) := by
  refine acalls_tidy (acalls_of_vc (hn := fun _ => false) (od := fun i => if i = 11 then some [(0, []), (1, []), (2, []), (3, []), (4, []), (5, []), (6, []), (7, []), (8, []), (9, []), (10, []), (11, []), (12, []), (13, []), (14, []), (15, []), (16, []), (17, []), (18, []), (19, []), (20, [2, 3, 4, 5, 6, 7, 8, 11, 12, 13, 14, 15]), (21, []), (22, []), (23, [])] else none) Tryz.func79 rfl (by kernel_rfl) ?_)
  have hbo : 1 ≤ binOp i ∧ binOp i ≤ 8 := by
    unfold binOp
    split
    · omega
    · split
      · omega
      · exact hbn (by omega)
  have hwy : Wd (binY i s) := by unfold binY; split; exact hi; exact hW _
  have cd := fun H => wdo_ok (binOp i) hbo (vg s.R i.dst) (binY i s) (hW _) hwy s.f H
  have hJ : binM i s = binM i s := rfl
  obtain ⟨J, hJ⟩ : ∃ J, J = binM i s := ⟨_, rfl⟩
  rw [← hJ]
  unfold binM at hJ
  obtain ⟨V, hV⟩ : ∃ V, V = doV (binOp i) (vg s.R i.dst) (binY i s) s.f := ⟨_, rfl⟩
  obtain ⟨F, hF⟩ : ∃ F, F = doF (binOp i) (vg s.R i.dst) (binY i s) s.f := ⟨_, rfl⟩
  rw [← hV, ← hF] at hJ cd
  clear hV hF hbo hwy hbn hi
  obtain ⟨op, bin, sh, co, dst, src, imm, base, index, hb, hi', disp, lab⟩ := i
  have mac : ∀ s X, (G s ++ X)[km]? = some (.box 88 (mcl ks kp kme s)) := fun s X => gg.mac s X
  have macs : ∀ s X Z, ((G s ++ X).set ks Z)[km]? = some (.box 88 (mcl ks kp kme s)) := fun s X Z => gg.macs s X Z
  have d16 := mcl_d16 (ks := ks) (kp := kp) (kme := kme) hR
  have d21 := mcl_d21 (ks := ks) (kp := kp) (kme := kme) hR
  have d23 := mcl_d23 (ks := ks) (kp := kp) (kme := kme) hR
  have d24 := mcl_d24 (ks := ks) (kp := kp) (kme := kme) hR
  have d25 := mcl_d25 (ks := ks) (kp := kp) (kme := kme) hR
  have ml := mcl_len (ks := ks) (kp := kp) (kme := kme) hR
  have t16 := mcl_t16 (ks := ks) (kp := kp) (kme := kme) hR
  have hrow := gg.row s
  have bx : ∀ s' (X : Blk) Y, (G s' ++ X :: Y)[(G s).length]? = some X := fun s' X Y => by rw [gg.len, ← gg.len s', List.getElem?_append_right (Nat.le_refl _), Nat.sub_self]; rfl
  have bx2 : ∀ s' (X Z : Blk) Y, (G s' ++ X :: Z :: Y)[(G s).length + 1]? = some Z := fun s' X Z Y => by rw [gg.len, ← gg.len s', List.getElem?_append_right (by omega), show (G s').length + 1 - (G s').length = 1 by omega]; rfl
  have sx2 : ∀ s' (X Z W : Blk) Y, (G s' ++ X :: Z :: Y).set ((G s).length + 1) W = G s' ++ X :: W :: Y := fun s' X Z W Y => by rw [gg.len, ← gg.len s', List.set_append_right _ _ (by omega), show (G s').length + 1 - (G s').length = 1 by omega]; rfl
  obtain ⟨fc, fz, fs, fo, fp⟩ := F
  simp only [Fl.cells] at cd
  have gd := mcl_get (ks := ks) (kp := kp) (kme := kme) hR hd
  have gs := mcl_get (ks := ks) (kp := kp) (kme := kme) hR hsr
  have bd := isReg_b hd
  have bs := isReg_b hsr
  have stF := gg.stF s hR fc fz fs fo fp
  have stR := gg.stR { s with f := ⟨fc, fz, fs, fo, fp⟩ } hR dst hd V
  simp only at hJ gd gs bd bs hop cd
  rcases hop with rfl | rfl | rfl | rfl | rfl
  all_goals simp [binOp, binY] at cd hJ
  all_goals simp -dsimp [mac, d16]
  all_goals refine andVW_intro bs ?_
  all_goals simp -dsimp [mac, gs, bx]
  all_goals refine andVW_intro bd ?_
  all_goals simp -dsimp [mac, gd, bx, d16]
  all_goals refine callDW_intro (cd _) ?_
  all_goals simp -dsimp [mac, gd, bx, bx2, sx2, d16, stF, stR]
  all_goals repeat' first
    | with_reducible refine And.intro ?_ ?_
    | (with_reducible refine andVW_intro bd ?_; simp -dsimp [mac, gd, bx, bx2, sx2, d16, stF, stR])
    | (refine callDW_intro (cd _) ?_; simp -dsimp [mac, gd, bx, bx2, sx2, d16, stF, stR])
  all_goals subst hJ
  all_goals exact gg.fin rfl ⟨rfl, rfl⟩
def shN (i : Amd) (s : Mst) : Int := if i.op = 7 then vg s.R 1 else i.imm
def shiftM (i : Amd) (s : Mst) : Mst := { s with f := shiftF i.shift (vg s.R i.dst) (shN i s) s.f, R := s.R.set i.dst.toNat (shiftV i.shift (vg s.R i.dst) (shN i s)) }
theorem dshift_ok (gg : GA G M km kp ka kme kb ks l lay) (i : Amd) (hop : i.op = 7 ∨ i.op = 8) (hsh : 1 ≤ i.shift ∧ i.shift ≤ 5) (hd : Lm.isReg i.dst = true) (s : Mst) (hR : s.R.length = 16) (hW : ∀ r, Wd (vg s.R r)) :
    ACalls Tryz.prog 80 [.bp km 0, .agg i.cells] (G s) (fun e M' => e = .ret (I 0) ∧ M' = G (shiftM i s)) := by
  refine acalls_tidy (acalls_of_vc (hn := fun _ => false) (od := fun i => if i = 4 then some [(0, []), (1, []), (2, []), (3, []), (4, []), (5, []), (6, []), (7, []), (8, []), (9, []), (10, []), (11, []), (12, []), (13, []), (14, []), (15, []), (16, []), (17, []), (18, []), (19, []), (20, []), (21, [0, 1, 3, 4, 5, 6, 7, 8, 9, 12, 13, 14, 15, 16]), (22, []), (23, []), (24, [])] else if i = 5 then some [(0, []), (1, []), (2, []), (3, []), (4, []), (5, []), (6, []), (7, []), (8, []), (9, []), (10, [5]), (11, []), (12, []), (13, []), (14, [])] else none) Tryz.func80 rfl (by kernel_rfl) ?_)
  have cd := fun H => wshift_ok i.shift (vg s.R i.dst) (shN i s) hsh (hW _) s.f H
  obtain ⟨J, hJ⟩ : ∃ J, J = shiftM i s := ⟨_, rfl⟩
  rw [← hJ]
  unfold shiftM at hJ
  obtain ⟨V, hV⟩ : ∃ V, V = shiftV i.shift (vg s.R i.dst) (shN i s) := ⟨_, rfl⟩
  obtain ⟨F, hF⟩ : ∃ F, F = shiftF i.shift (vg s.R i.dst) (shN i s) s.f := ⟨_, rfl⟩
  rw [← hV, ← hF] at hJ cd
  clear hV hF
  obtain ⟨op, bin, sh, co, dst, src, imm, base, index, hb, hi', disp, lab⟩ := i
  have mac : ∀ s X, (G s ++ X)[km]? = some (.box 88 (mcl ks kp kme s)) := fun s X => gg.mac s X
  have macs : ∀ s X Z, ((G s ++ X).set ks Z)[km]? = some (.box 88 (mcl ks kp kme s)) := fun s X Z => gg.macs s X Z
  have d16 := mcl_d16 (ks := ks) (kp := kp) (kme := kme) hR
  have d21 := mcl_d21 (ks := ks) (kp := kp) (kme := kme) hR
  have d23 := mcl_d23 (ks := ks) (kp := kp) (kme := kme) hR
  have d24 := mcl_d24 (ks := ks) (kp := kp) (kme := kme) hR
  have d25 := mcl_d25 (ks := ks) (kp := kp) (kme := kme) hR
  have ml := mcl_len (ks := ks) (kp := kp) (kme := kme) hR
  have t16 := mcl_t16 (ks := ks) (kp := kp) (kme := kme) hR
  have hrow := gg.row s
  have bx : ∀ s' (X : Blk) Y, (G s' ++ X :: Y)[(G s).length]? = some X := fun s' X Y => by rw [gg.len, ← gg.len s', List.getElem?_append_right (Nat.le_refl _), Nat.sub_self]; rfl
  have bx2 : ∀ s' (X Z : Blk) Y, (G s' ++ X :: Z :: Y)[(G s).length + 1]? = some Z := fun s' X Z Y => by rw [gg.len, ← gg.len s', List.getElem?_append_right (by omega), show (G s').length + 1 - (G s').length = 1 by omega]; rfl
  have sx2 : ∀ s' (X Z W : Blk) Y, (G s' ++ X :: Z :: Y).set ((G s).length + 1) W = G s' ++ X :: W :: Y := fun s' X Z W Y => by rw [gg.len, ← gg.len s', List.set_append_right _ _ (by omega), show (G s').length + 1 - (G s').length = 1 by omega]; rfl
  obtain ⟨fc, fz, fs, fo, fp⟩ := F
  simp only [Fl.cells] at cd
  have gd := mcl_get (ks := ks) (kp := kp) (kme := kme) hR hd
  have g1 := mcl_get (ks := ks) (kp := kp) (kme := kme) hR (i := 1) rfl
  have bd := isReg_b hd
  have stF := gg.stF { s with R := s.R.set dst.toNat V } (by simpa using hR) fc fz fs fo fp
  have stR := gg.stR s hR dst hd V
  simp only [Int.toNat_one] at g1
  simp only at hJ gd bd hop cd stF
  rcases hop with rfl | rfl
  all_goals simp [shN] at cd
  all_goals simp -dsimp [mac, d16, bx, g1]
  all_goals repeat' first
    | with_reducible refine And.intro ?_ ?_
    | (with_reducible refine andVW_intro bd ?_; simp -dsimp [mac, gd, bx, bx2, sx2, d16, stF, stR])
    | (refine callDW_intro (cd _) ?_; simp -dsimp [mac, gd, bx, bx2, sx2, d16, stF, stR])
  all_goals subst hJ
  all_goals exact gg.fin rfl ⟨rfl, rfl⟩
def negM (i : Amd) (s : Mst) : Mst := { s with f := doF 3 0 (vg s.R i.dst) ⟨false, false, false, false, false⟩, R := s.R.set i.dst.toNat (doV 3 0 (vg s.R i.dst) ⟨false, false, false, false, false⟩) }
theorem dneg_ok (gg : GA G M km kp ka kme kb ks l lay) (i : Amd) (hd : Lm.isReg i.dst = true) (s : Mst) (hR : s.R.length = 16) (hW : ∀ r, Wd (vg s.R r)) :
    ACalls Tryz.prog 81 [.bp km 0, .agg i.cells] (G s) (fun e M' => e = .ret (I 0) ∧ M' = G (negM i s)) := by
  refine acalls_tidy (acalls_of_vc (hn := fun _ => false) (od := fun i => if i = 1 then some [(0, []), (1, []), (2, []), (3, []), (4, []), (5, []), (6, []), (7, []), (8, []), (9, []), (10, []), (11, []), (12, []), (13, [1, 2, 3, 4, 5, 6, 7, 8]), (14, []), (15, []), (16, [])] else if i = 2 then some [(0, []), (1, []), (2, []), (3, []), (4, []), (5, []), (6, []), (7, []), (8, []), (9, []), (10, [5]), (11, []), (12, []), (13, []), (14, [])] else none) Tryz.func81 rfl (by kernel_rfl) ?_)
  have cd := fun H => wneg_ok (vg s.R i.dst) (hW _) H
  obtain ⟨J, hJ⟩ : ∃ J, J = negM i s := ⟨_, rfl⟩
  rw [← hJ]
  unfold negM at hJ
  obtain ⟨V, hV⟩ : ∃ V, V = doV 3 0 (vg s.R i.dst) ⟨false, false, false, false, false⟩ := ⟨_, rfl⟩
  obtain ⟨F, hF⟩ : ∃ F, F = doF 3 0 (vg s.R i.dst) ⟨false, false, false, false, false⟩ := ⟨_, rfl⟩
  rw [← hV, ← hF] at hJ cd
  clear hV hF
  obtain ⟨op, bin, sh, co, dst, src, imm, base, index, hb, hi', disp, lab⟩ := i
  have mac : ∀ s X, (G s ++ X)[km]? = some (.box 88 (mcl ks kp kme s)) := fun s X => gg.mac s X
  have macs : ∀ s X Z, ((G s ++ X).set ks Z)[km]? = some (.box 88 (mcl ks kp kme s)) := fun s X Z => gg.macs s X Z
  have d16 := mcl_d16 (ks := ks) (kp := kp) (kme := kme) hR
  have d21 := mcl_d21 (ks := ks) (kp := kp) (kme := kme) hR
  have d23 := mcl_d23 (ks := ks) (kp := kp) (kme := kme) hR
  have d24 := mcl_d24 (ks := ks) (kp := kp) (kme := kme) hR
  have d25 := mcl_d25 (ks := ks) (kp := kp) (kme := kme) hR
  have ml := mcl_len (ks := ks) (kp := kp) (kme := kme) hR
  have t16 := mcl_t16 (ks := ks) (kp := kp) (kme := kme) hR
  have hrow := gg.row s
  have bx : ∀ s' (X : Blk) Y, (G s' ++ X :: Y)[(G s).length]? = some X := fun s' X Y => by rw [gg.len, ← gg.len s', List.getElem?_append_right (Nat.le_refl _), Nat.sub_self]; rfl
  have bx2 : ∀ s' (X Z : Blk) Y, (G s' ++ X :: Z :: Y)[(G s).length + 1]? = some Z := fun s' X Z Y => by rw [gg.len, ← gg.len s', List.getElem?_append_right (by omega), show (G s').length + 1 - (G s').length = 1 by omega]; rfl
  have sx2 : ∀ s' (X Z W : Blk) Y, (G s' ++ X :: Z :: Y).set ((G s).length + 1) W = G s' ++ X :: W :: Y := fun s' X Z W Y => by rw [gg.len, ← gg.len s', List.set_append_right _ _ (by omega), show (G s').length + 1 - (G s').length = 1 by omega]; rfl
  obtain ⟨fc, fz, fs, fo, fp⟩ := F
  simp only [Fl.cells] at cd
  have gd := mcl_get (ks := ks) (kp := kp) (kme := kme) hR hd
  have bd := isReg_b hd
  have stF := gg.stF { s with R := s.R.set dst.toNat V } (by simpa using hR) fc fz fs fo fp
  have stR := gg.stR s hR dst hd V
  simp only at hJ gd bd cd stF
  simp -dsimp [mac, d16, bx]
  repeat' first
    | with_reducible refine And.intro ?_ ?_
    | (with_reducible refine andVW_intro bd ?_; simp -dsimp [mac, gd, bx, bx2, sx2, d16, stF, stR])
    | (refine callDW_intro (cd _) ?_; simp -dsimp [mac, gd, bx, bx2, sx2, d16, stF, stR])
  all_goals subst hJ
  all_goals exact gg.fin rfl ⟨rfl, rfl⟩
end
end Go.Proofs
namespace Go.Proofs
open Go.Mu
structure AmdR (i : Amd) : Prop where
  op : 1 ≤ i.op ∧ i.op ≤ 20
  dst : Lm.isReg i.dst = true
  src : Lm.isReg i.src = true
  cond : 0 ≤ i.cond ∧ i.cond ≤ 15
  bin : i.op = 5 ∨ i.op = 6 → 1 ≤ i.bin ∧ i.bin ≤ 8
  shift : i.op = 7 ∨ i.op = 8 → 1 ≤ i.shift ∧ i.shift ≤ 5
theorem mayOne_r {i : Amd} (h : Lm.mayOne i = true) : AmdR i := by
  unfold Lm.mayOne at h
  cases hl : Lm.partsT.lookup i.op with
  | none => rw [hl] at h; cases h
  | some p =>
    rw [hl] at h
    have hm := Lm.lookup_mem hl
    simp only [Bool.and_eq_true, decide_eq_true_eq] at h
    obtain ⟨⟨⟨⟨⟨⟨h1, h2⟩, h3⟩, h4⟩, h5⟩, h6⟩, h7⟩ := h
    have hop : 1 ≤ i.op ∧ i.op ≤ 20 := by
      simp only [Lm.partsT, List.mem_cons, Prod.mk.injEq, List.not_mem_nil, or_false] at hm
      omega
    refine ⟨hop, h2, h3, ?_, fun ho => ?_, fun ho => ?_⟩
    · simp only [Bool.not_eq_true', Bool.or_eq_false_iff, decide_eq_false_iff_not] at h6
      omega
    · have hp : p = 19 ∨ p = 21 := by
        simp only [Lm.partsT, List.mem_cons, Prod.mk.injEq, List.not_mem_nil, or_false] at hm
        omega
      have hb : Lm.bitP p 16 = true := by rcases hp with rfl | rfl <;> decide
      rw [hb] at h5
      simp only [Bool.true_and, Bool.not_eq_true', Bool.or_eq_false_iff, decide_eq_false_iff_not] at h5
      omega
    · have hp : p = 33 ∨ p = 37 := by
        simp only [Lm.partsT, List.mem_cons, Prod.mk.injEq, List.not_mem_nil, or_false] at hm
        omega
      have hb : Lm.bitP p 32 = true := by rcases hp with rfl | rfl <;> decide
      rw [hb] at h5
      simp only [Bool.true_and, Bool.not_eq_true', Bool.or_eq_false_iff, decide_eq_false_iff_not, Bool.and_eq_false_iff] at h5
      omega
theorem dset1_ok (g : FuncId) (H : List Blk) : ACalls Tryz.prog 71 [.fn (.func g) [] []] H (fun e H' => e = .ret (.fn (.func 72) [] [.vp [.fn (.func g) [] []]]) ∧ H' = H) := by
  have h0 : ACalls Tryz.prog 71 [.fn (.func g) [] []] H (fun e H' => e = .ret (.fn (.func 72) [] [.bp H.length 0]) ∧ H' = H ++ [.box 144 [.fn (.func g) [] []]]) := by
    refine acalls_of_vc (hn := fun _ => false) (od := fun _ => none) Tryz.func71 rfl (by kernel_rfl) ?_
    simp -dsimp
  have h1 := acalls_boxed (by simp [AV.frzF, AV.frzB]) (by simp [AV.bfz, bfzL, AV.under, underL]) h0
  simpa [AV.bfz, bfzL] using h1
abbrev setFn (g : FuncId) : AV := .fn (.func 72) [] [.vp [.fn (.func g) [] []]]
def deedMap : List (Value × AV) := [(.int .i64 1, setFn 73), (.int .i64 2, setFn 74), (.int .i64 9, setFn 75), (.int .i64 15, setFn 76),
  (.int .i64 3, plFn 77), (.int .i64 4, plFn 78), (.int .i64 5, plFn 79), (.int .i64 6, plFn 79), (.int .i64 11, plFn 79), (.int .i64 13, plFn 79), (.int .i64 12, plFn 79),
  (.int .i64 7, plFn 80), (.int .i64 8, plFn 80), (.int .i64 10, plFn 81), (.int .i64 14, plFn 82), (.int .i64 16, plFn 82), (.int .i64 17, plFn 83), (.int .i64 18, plFn 83)]
theorem deeds_ok (H : List Blk) : ACalls Tryz.prog 40 [] H (fun e H' => e = .ret (.hm H.length) ∧ H' = H ++ [.map deedMap]) := by
  refine acalls_of_vc (hn := fun _ => false) (od := fun _ => none) Tryz.func40 rfl (by kernel_rfl) ?_
  have c2 := fun H => dset1_ok 73 H
  have c3 := fun H => dset1_ok 74 H
  have c4 := fun H => dset1_ok 75 H
  have c5 := fun H => dset1_ok 76 H
  have ok1 : okFn Tryz.prog 71 = true := by kernel_rfl
  simp -dsimp [msetA_nil, msetA_cons, ok1]
  refine acallsW_det (c2 _) ?_
  simp -dsimp [msetA_nil, msetA_cons, ok1]
  refine acallsW_det (c3 _) ?_
  simp -dsimp [msetA_nil, msetA_cons, ok1]
  refine acallsW_det (c4 _) ?_
  simp -dsimp [msetA_nil, msetA_cons, ok1]
  refine acallsW_det (c5 _) ?_
  simp -dsimp [msetA_nil, msetA_cons, ok1]
  rfl
def deedM (lay : List Rg) (l : List Amd) (i : Amd) (s : Mst) : Mst × Int :=
  if i.op = 1 then ({ s with R := s.R.set i.dst.toNat (vg s.R i.src) }, 0)
  else if i.op = 2 then ({ s with R := s.R.set i.dst.toNat i.imm }, 0)
  else if i.op = 9 then ({ s with R := s.R.set i.dst.toNat (notU (vg s.R i.dst)) }, 0)
  else if i.op = 15 then ({ s with R := s.R.set i.dst.toNat (low8 (vg s.R i.src)) }, 0)
  else if i.op = 3 then loadM lay i s
  else if i.op = 4 then storeM lay i s
  else if i.op = 7 ∨ i.op = 8 then (shiftM i s, 0)
  else if i.op = 10 then (negM i s, 0)
  else if i.op = 14 ∨ i.op = 16 then (condM i s, 0)
  else if i.op = 17 ∨ i.op = 18 then (jumpM l i s, 0)
  else (binM i s, 0)
structure MsR (s : Mst) : Prop where
  R : s.R.length = 16
  W : ∀ r, Wd (vg s.R r)
  seen : s.seen.length ≤ 2^40
  b : s.b.length = 65536
section
variable {G : Mst → List Blk} {M : List Blk} {km kp ka kme kb ks : Nat} {l : List Amd} {lay : List Rg}
theorem deed_row (gg : GA G M km kp ka kme kb ks l lay) (hl : lay.length ≤ 16) (ho : ∀ r ∈ lay, r.Ok) (i : Amd) (ir : AmdR i) (hi : Wd i.imm) (h19 : i.op ≠ 19) (h20 : i.op ≠ 20) (s : Mst) (hs : MsR s) :
    ∃ g cs, mfind (.int .i64) (.int .i64 i.op) deedMap = some (some (.fn (.func g) [] cs)) ∧ okFn Tryz.prog g = true ∧ ACalls Tryz.prog g ([.bp km 0, .agg i.cells] ++ cs) (G s) (fun e M' => e = .ret (I (deedM lay l i s).2) ∧ M' = G (deedM lay l i s).1) := by
  obtain ⟨hR, hW, hsn, hb⟩ := hs
  have hk1 : okFn Tryz.prog 72 = true := by kernel_rfl
  have hop := ir.op
  have c : i.op = 1 ∨ i.op = 2 ∨ i.op = 3 ∨ i.op = 4 ∨ i.op = 5 ∨ i.op = 6 ∨ i.op = 7 ∨ i.op = 8 ∨ i.op = 9 ∨ i.op = 10 ∨ i.op = 11 ∨ i.op = 12 ∨ i.op = 13 ∨ i.op = 14 ∨ i.op = 15 ∨ i.op = 16 ∨ i.op = 17 ∨ i.op = 18 := by omega
  unfold deedM
  rcases c with c | c | c | c | c | c | c | c | c | c | c | c | c | c | c | c | c | c
  · exact ⟨72, _, by rw [c]; simp [deedMap, mfindA_cons, mfindA_nil]; rfl, hk1, by simpa [c] using dset_ok gg 73 (by kernel_rfl) i ir.dst s hR _ (fun H h => dset2_ok i ir.src s hR H h)⟩
  · exact ⟨72, _, by rw [c]; simp [deedMap, mfindA_cons, mfindA_nil]; rfl, hk1, by simpa [c] using dset_ok gg 74 (by kernel_rfl) i ir.dst s hR _ (fun H h => dset3_ok i km H)⟩
  · exact ⟨77, [], by rw [c]; simp [deedMap, mfindA_cons, mfindA_nil], by kernel_rfl, by simpa [c] using dload_ok gg hl ho i ir.dst s hR hsn hb⟩
  · exact ⟨78, [], by rw [c]; simp [deedMap, mfindA_cons, mfindA_nil], by kernel_rfl, by simpa [c] using dstore_ok gg hl ho i ir.src s hR hsn hb⟩
  · exact ⟨79, [], by rw [c]; simp [deedMap, mfindA_cons, mfindA_nil], by kernel_rfl, by simpa [c] using dbin_ok gg i (by simp [c]) ir.bin hi ir.dst ir.src s hR hW⟩
  · exact ⟨79, [], by rw [c]; simp [deedMap, mfindA_cons, mfindA_nil], by kernel_rfl, by simpa [c] using dbin_ok gg i (by simp [c]) ir.bin hi ir.dst ir.src s hR hW⟩
  · exact ⟨80, [], by rw [c]; simp [deedMap, mfindA_cons, mfindA_nil], by kernel_rfl, by simpa [c] using dshift_ok gg i (by simp [c]) (ir.shift (by simp [c])) ir.dst s hR hW⟩
  · exact ⟨80, [], by rw [c]; simp [deedMap, mfindA_cons, mfindA_nil], by kernel_rfl, by simpa [c] using dshift_ok gg i (by simp [c]) (ir.shift (by simp [c])) ir.dst s hR hW⟩
  · exact ⟨72, _, by rw [c]; simp [deedMap, mfindA_cons, mfindA_nil]; rfl, hk1, by simpa [c] using dset_ok gg 75 (by kernel_rfl) i ir.dst s hR _ (fun H h => dset4_ok i ir.dst s hR H h)⟩
  · exact ⟨81, [], by rw [c]; simp [deedMap, mfindA_cons, mfindA_nil], by kernel_rfl, by simpa [c] using dneg_ok gg i ir.dst s hR hW⟩
  · exact ⟨79, [], by rw [c]; simp [deedMap, mfindA_cons, mfindA_nil], by kernel_rfl, by simpa [c] using dbin_ok gg i (by simp [c]) ir.bin hi ir.dst ir.src s hR hW⟩
  · exact ⟨79, [], by rw [c]; simp [deedMap, mfindA_cons, mfindA_nil], by kernel_rfl, by simpa [c] using dbin_ok gg i (by simp [c]) ir.bin hi ir.dst ir.src s hR hW⟩
  · exact ⟨79, [], by rw [c]; simp [deedMap, mfindA_cons, mfindA_nil], by kernel_rfl, by simpa [c] using dbin_ok gg i (by simp [c]) ir.bin hi ir.dst ir.src s hR hW⟩
  · exact ⟨82, [], by rw [c]; simp [deedMap, mfindA_cons, mfindA_nil], by kernel_rfl, by simpa [c] using dcond_ok gg i ir.cond ir.dst ir.src s hR hW⟩
  · exact ⟨72, _, by rw [c]; simp [deedMap, mfindA_cons, mfindA_nil]; rfl, hk1, by simpa [c] using dset_ok gg 76 (by kernel_rfl) i ir.dst s hR _ (fun H h => dset5_ok i ir.src s hR H h)⟩
  · exact ⟨82, [], by rw [c]; simp [deedMap, mfindA_cons, mfindA_nil], by kernel_rfl, by simpa [c] using dcond_ok gg i ir.cond ir.dst ir.src s hR hW⟩
  · exact ⟨83, [], by rw [c]; simp [deedMap, mfindA_cons, mfindA_nil], by kernel_rfl, by simpa [c] using djump_ok gg i ir.cond s hR hsn⟩
  · exact ⟨83, [], by rw [c]; simp [deedMap, mfindA_cons, mfindA_nil], by kernel_rfl, by simpa [c] using djump_ok gg i ir.cond s hR hsn⟩
def stepM (lay : List Rg) (l : List Amd) (s : Mst) : Mst × Int :=
  match l[s.at_.toNat]? with
  | none => (s, 6)
  | some i => if i.op = 19 then ({ s with at_ := IntKind.i64.wrap (s.at_ + 1) }, 0)
    else if i.op = 20 then ({ s with steps := IntKind.i64.wrap (s.steps + 1) }, 6)
    else if (deedM lay l i { s with steps := IntKind.i64.wrap (s.steps + 1), at_ := IntKind.i64.wrap (s.at_ + 1) }).2 = 0 then deedM lay l i { s with steps := IntKind.i64.wrap (s.steps + 1), at_ := IntKind.i64.wrap (s.at_ + 1) }
    else ({ (deedM lay l i { s with steps := IntKind.i64.wrap (s.steps + 1), at_ := IntKind.i64.wrap (s.at_ + 1) }).1 with at_ := IntKind.i64.wrap ((deedM lay l i { s with steps := IntKind.i64.wrap (s.steps + 1), at_ := IntKind.i64.wrap (s.at_ + 1) }).1.at_ - 1) }, (deedM lay l i { s with steps := IntKind.i64.wrap (s.steps + 1), at_ := IntKind.i64.wrap (s.at_ + 1) }).2)
theorem deed_R (lay : List Rg) (l : List Amd) (i : Amd) (s : Mst) : (deedM lay l i s).1.R.length = s.R.length := by
  unfold deedM
  split; · simp
  split; · simp
  split; · simp
  split; · simp
  split; · unfold loadM; simp only; split <;> simp
  split; · unfold storeM; simp
  split; · unfold shiftM; simp
  split; · unfold negM; simp
  split; · unfold condM; simp only; split; simp; split <;> simp
  split; · unfold jumpM; simp only; split <;> simp
  unfold binM; simp only; split <;> simp
theorem astep_ok (gg : GA G M km kp ka kme kb ks l lay) (hl : lay.length ≤ 16) (ho : ∀ r ∈ lay, r.Ok) (hll : l.length ≤ 1048576) (hr : ∀ i ∈ l, AmdR i ∧ Wd i.imm) (kd : Nat) (hkd : M[kd]? = some (.map deedMap)) (hdn : kd ≠ km ∧ kd ≠ kb ∧ kd ≠ ks) (s : Mst) (hs : MsR s) (h0 : 0 ≤ s.at_) (h1 : s.at_ ≤ l.length) :
    ACalls Tryz.prog 39 [.bp km 0, .hm kd] (G s) (fun e M' => e = .ret (I (stepM lay l s).2) ∧ M' = G (stepM lay l s).1) := by
  refine acalls_tidy (acalls_of_vc (hn := fun _ => false) (od := fun i => if i = 3 then some [(0, []), (1, []), (2, []), (3, []), (4, []), (5, []), (6, []), (7, []), (8, []), (9, []), (10, []), (11, []), (12, []), (13, []), (14, [1, 2, 3, 4, 5, 6, 8, 9, 10, 11, 12, 13]), (15, [])] else none) Tryz.func39 rfl (by kernel_rfl) ?_)
  have hR := hs.R
  have mac : ∀ s X, (G s ++ X)[km]? = some (.box 88 (mcl ks kp kme s)) := fun s X => gg.mac s X
  have mac0 : ∀ s, (G s)[km]? = some (.box 88 (mcl ks kp kme s)) := fun s => by have := gg.mac s []; rw [List.append_nil] at this; exact this
  have prg0 := gg.prg s []
  rw [List.append_nil] at prg0
  have prg := gg.prg
  have tabd : ∀ s X, mapEs (G s ++ X) (.hm kd) = some deedMap := fun s X => by simp only [mapEs]; rw [gg.old s X kd hdn.1 hdn.2.1 hdn.2.2 (lt_of_get hkd), hkd]
  have d21 := mcl_d21 (ks := ks) (kp := kp) (kme := kme) hR
  have d22 := mcl_d22 (ks := ks) (kp := kp) (kme := kme) hR
  have d23 := mcl_d23 (ks := ks) (kp := kp) (kme := kme) hR
  have bx : ∀ s' (X : Blk) Y, (G s' ++ X :: Y)[(G s).length]? = some X := fun s' X Y => by rw [gg.len, ← gg.len s', List.getElem?_append_right (Nat.le_refl _), Nat.sub_self]; rfl
  have sx : ∀ s' (X W : Blk) Y, (G s' ++ X :: Y).set (G s).length W = G s' ++ W :: Y := fun s' X W Y => by rw [gg.len, ← gg.len s', List.set_append_right _ _ (Nat.le_refl _), Nat.sub_self]; rfl
  obtain ⟨J, hJ⟩ : ∃ J, J = stepM lay l s := ⟨_, rfl⟩
  rw [← hJ]
  unfold stepM at hJ
  obtain ⟨k, hk⟩ : ∃ k : Nat, s.at_ = k := ⟨s.at_.toNat, by omega⟩
  rw [hk] at hJ h1 d21
  simp only [Int.toNat_natCast] at hJ
  by_cases he : k = l.length
  · subst he
    rw [List.getElem?_eq_none (Nat.le_refl _)] at hJ
    simp only at hJ
    simp -dsimp [mac0, d21, d23, prg0]
    subst hJ
    have := gg.fin (L := []) (s0 := s) (s := s) (R := fun e M' => e = .ret (I 6) ∧ M' = G s) (r := I 6) rfl ⟨rfl, rfl⟩
    rw [List.append_nil] at this
    exact this
  have hlt : k < l.length := by omega
  have hget : l[k]? = some l[k] := List.getElem?_eq_getElem hlt
  have hne : ((k : Int) == (l.length : Int)) = false := by simp; omega
  obtain ⟨hir, him⟩ := hr l[k] (List.getElem_mem hlt)
  rw [hget] at hJ
  simp only at hJ
  obtain ⟨x, hx⟩ : ∃ x, x = l[k] := ⟨_, rfl⟩
  rw [← hx] at hJ hir him hget
  clear hx
  have hw1 : IntKind.i64.wrap ((k : Int) + 1) = (k : Int) + 1 := wrapI (by omega) (by omega)
  have stA := gg.stA s hR
  have stT := gg.stT s hR
  have hs2 : MsR { s with steps := IntKind.i64.wrap (s.steps + 1), at_ := IntKind.i64.wrap ((k : Int) + 1) } := ⟨hs.R, hs.W, hs.seen, hs.b⟩
  have stA2 := gg.stA { s with steps := IntKind.i64.wrap (s.steps + 1) } hR
  have d21b : (mcl ks kp kme { s with steps := IntKind.i64.wrap (s.steps + 1) }).drop 21 = [I (k : Int), I (IntKind.i64.wrap (s.steps + 1)), .bp kp 0, .bp kme 0, seS ks s.seen] := by rw [← hk]; exact mcl_d21 hR
  have gga := gg.app [Blk.box 56 x.cells]
  by_cases h19 : x.op = 19
  · rw [if_pos h19] at hJ
    obtain ⟨op, bin, sh, co, dst, src, imm, base, index, hb, hi', disp, lab⟩ := x
    simp only at h19 hJ
    subst h19
    simp -dsimp [mac0, mac, d21, d23, prg0, prg, hne, hget, bx, sx, stA, hw1]
    subst hJ
    rw [hw1]
    exact gg.fin rfl ⟨rfl, rfl⟩
  rw [if_neg h19] at hJ
  by_cases h20 : x.op = 20
  · rw [if_pos h20] at hJ
    obtain ⟨op, bin, sh, co, dst, src, imm, base, index, hb, hi', disp, lab⟩ := x
    simp only at h20 hJ
    subst h20
    simp -dsimp [mac0, mac, d21, d22, d23, prg0, prg, hne, hget, bx, sx, stT, hw1]
    subst hJ
    rw [← hk]
    exact gg.fin rfl ⟨rfl, rfl⟩
  rw [if_neg h20] at hJ
  obtain ⟨g, cs, hf, hok, hg⟩ := deed_row gga hl ho x hir him h19 h20 { s with steps := IntKind.i64.wrap (s.steps + 1), at_ := IntKind.i64.wrap ((k : Int) + 1) } hs2
  obtain ⟨D, hD⟩ : ∃ D, D = deedM lay l x { s with steps := IntKind.i64.wrap (s.steps + 1), at_ := IntKind.i64.wrap ((k : Int) + 1) } := ⟨_, rfl⟩
  rw [← hD] at hJ hg
  have hDR : D.1.R.length = 16 := by rw [hD, deed_R]; exact hR
  have d21c := mcl_d21 (ks := ks) (kp := kp) (kme := kme) hDR
  have stA3 := gg.stA D.1 hDR
  have e19 : (x.op == 19) = false := by simp [h19]
  have e20 : (x.op == 20) = false := by simp [h20]
  obtain ⟨op, bin, sh, co, dst, src, imm, base, index, hb, hi', disp, lab⟩ := x
  simp only [Lm.Amd.cells] at hg e19 e20 hf
  rw [hw1] at hg
  simp -dsimp [mac0, mac, d21, d22, d21b, d23, prg0, prg, hne, hget, bx, sx, stT, stA2, hw1, e19, e20, tabd, hf, hok]
  refine acallsW_of hg ?_
  rintro e _ ⟨rfl, rfl⟩
  clear hg
  by_cases hz : D.2 = 0
  · rw [if_pos hz] at hJ
    rw [hJ]
    have z1 : (D.2 != 0) = false := by simp [hz]
    simp -dsimp [z1]
    exact gg.fin rfl ⟨rfl, rfl⟩
  · rw [if_neg hz] at hJ
    rw [hJ]
    have z1 : (D.2 != 0) = true := by simp [hz]
    simp -dsimp [z1, mac, d21c, stA3]
    exact gg.fin rfl ⟨rfl, rfl⟩
end
end Go.Proofs
namespace Go.Proofs
open Go.Mu
theorem zeroBigZ : ∃ z, zeroOf Tryz.prog 127 = some z ∧ z.cells.toList.length = 65536 := by
  refine ⟨_, zeroOf_of_run ⟨#[], fun _ _ => 0, 0, default, #[]⟩ (Tryz.zeroValue127 _), ?_⟩
  have e : (Value.agg Tryz.zeroCells127).cells.toList = zeroB.map (Value.int .u8) := zeroBig_ex.choose_spec.1
  rw [e, List.length_map, zeroB_len]
theorem mlayoutA_ok {M : List Blk} {k kb : Nat} {lay : List Rg} {b : List Int} (m : MemAt M k kb lay b) (hl : lay.length ≤ 16) : ACalls Tryz.prog 69 [.bp k 0] M (fun e M' => e = .ret (Rg.sl lay) ∧ M' = M) := by
  refine acalls_of_vc (hn := fun _ => false) (od := fun _ => none) Tryz.func69 rfl (by kernel_rfl) ?_
  have ct := mthere_ok m
  have cc := fun H => rgclone_ok lay (by omega) H
  have m1 := m.me
  simp -dsimp
  refine acallsW_det ct ?_
  simp -dsimp [m1]
  refine acallsW_det (cc _) ?_
  simp -dsimp
theorem mcopy_ok {M : List Blk} {k kb : Nat} {lay : List Rg} {b : List Int} (m : MemAt M k kb lay b) (hl : lay.length ≤ 16) : ACalls Tryz.prog 37 [.bp k 0] M (fun e M' => e = .ret (.bp (M.length + 1) 0) ∧ M' = M ++ [byB b, meB lay M.length]) := by
  refine acalls_of_vc (hn := fun _ => false) (od := fun _ => none) Tryz.func37 rfl (by kernel_rfl) ?_
  have ct := mthere_ok m
  have cl : ∀ X, ACalls Tryz.prog 69 [.bp k 0] (M ++ X) (fun e M' => e = .ret (Rg.sl lay) ∧ M' = M ++ X) := fun X => mlayoutA_ok ⟨get_app_old m.me X, get_app_old m.bytes X, m.len⟩ hl
  have m1 := m.me
  have m2 := m.bytes
  have hlen := m.len
  obtain ⟨bs, hbs⟩ : ∃ bs, bs = b.map Y := ⟨_, rfl⟩
  have hbl : bs.length = 65536 := by rw [hbs, List.length_map]; exact hlen
  have m2 : M[kb]? = some (.box 127 bs) := by rw [hbs]; exact m2
  have hbk : byB b = .box 127 bs := by rw [hbs]
  rw [hbk]
  have one : bs.all AV.one = true := by rw [hbs, List.all_map, List.all_eq_true]; intro x _; rfl
  clear hbs hbk hlen
  obtain ⟨z, hz, hzl⟩ := zeroBigZ
  obtain ⟨zc, hzc⟩ : ∃ zc, zc = List.map AV.v z.cells.toList := ⟨_, rfl⟩
  have hzc2 : zc.length = 65536 := by rw [hzc, List.length_map, hzl]
  have hspl : spl zc 0 bs = bs := by unfold spl; rw [List.take_zero, List.nil_append, Nat.zero_add, hbl, List.drop_eq_nil_of_le (by omega), List.append_nil]
  have htk : bs.take 65536 = bs := by rw [List.take_of_length_le (by omega)]
  simp -dsimp
  refine acallsW_det ct ?_
  simp -dsimp [m1, m2, hbl, hz, ← hzc, hzc2, hspl, one, htk]
  refine acallsW_det (cl _) ?_
  simp -dsimp
theorem wd_0 : Wd 0 := by unfold Wd; omega
theorem vg_W {R : List Int} (h : ∀ r, Wd (vg R r)) (d : Nat) {v : Int} (hv : Wd v) : ∀ r, Wd (vg (R.set d v) r) := by
  intro r
  unfold vg
  rw [List.getD_eq_getElem?_getD]
  by_cases e : d = r.toNat
  · subst e
    by_cases hl : r.toNat < R.length
    · rw [List.getElem?_set_self hl]; exact hv
    · rw [List.getElem?_eq_none (by rw [List.length_set]; omega)]; exact wd_0
  · rw [List.getElem?_set_ne e]
    have := h r
    unfold vg at this
    rw [List.getD_eq_getElem?_getD] at this
    exact this
theorem wd_getTo (b : List Int) (a : Nat) : ∀ n, Wd (getTo b a n)
  | 0 => wd_0
  | n + 1 => wd_wU _
theorem wd_andN8 {x : Int} (h : Wd x) : Wd (andN8 x) := by
  obtain ⟨h0, h1⟩ := h
  unfold andN8 Wd; omega
theorem wd_do (op a b : Int) (f : Fl) : Wd (doV op a b f) := wd_bin _ _ _ _
theorem wd_shiftV (op a k : Int) (h : Wd a) : Wd (shiftV op a k) := by
  unfold shiftV
  split
  · exact h
  · exact wd_sh _ _ _ h
theorem labsA_rng (l : List Amd) : ∀ (n : Nat) (k v : Int), (Lm.labsA l n).lookup k = some v → 0 ≤ v ∧ v < n + l.length := by
  induction l with
  | nil => intro n k v h; simp [Lm.labsA] at h
  | cons a l ih =>
    intro n k v h
    rw [Lm.labsA] at h
    split at h
    · rw [List.lookup_cons] at h
      split at h
      · simp at h; subst h; simp; omega
      · have := ih _ _ _ h; simp at this ⊢; omega
    · have := ih _ _ _ h; simp at this ⊢; omega
theorem labAt_rng (l : List Amd) (k : Int) : 0 ≤ ((Lm.labsA l 0).lookup k).getD 0 ∧ ((Lm.labsA l 0).lookup k).getD 0 ≤ l.length := by
  cases h : (Lm.labsA l 0).lookup k with
  | none => simp
  | some v => have := labsA_rng l 0 k v h; simp at this ⊢; omega
theorem deed_ok (lay : List Rg) (l : List Amd) (i : Amd) (hi : Wd i.imm) (s : Mst) (hs : MsR s) (h : s.seen.length < 2^40) (h0 : 0 ≤ s.at_) (h1 : s.at_ ≤ l.length) :
    MsR (deedM lay l i s).1 ∧ (deedM lay l i s).1.steps = s.steps ∧ (deedM lay l i s).1.seen.length ≤ s.seen.length + 1 ∧ 0 ≤ (deedM lay l i s).1.at_ ∧ (deedM lay l i s).1.at_ ≤ l.length ∧ ((deedM lay l i s).2 ≠ 0 → (deedM lay l i s).1.at_ = s.at_) := by
  obtain ⟨hR, hW, hsn, hb⟩ := hs
  have easy : ∀ (R : List Int) (f : Fl), R.length = 16 → (∀ r, Wd (vg R r)) → MsR { s with R := R, f := f } := fun R f a b => ⟨a, b, hsn, hb⟩
  have e2 : ∀ q : Mst, MsR q → q.steps = s.steps → q.seen.length ≤ s.seen.length + 1 → q.at_ = s.at_ → ∀ e : Int, MsR (q, e).1 ∧ (q, e).1.steps = s.steps ∧ (q, e).1.seen.length ≤ s.seen.length + 1 ∧ 0 ≤ (q, e).1.at_ ∧ (q, e).1.at_ ≤ l.length ∧ ((q, e).2 ≠ 0 → (q, e).1.at_ = s.at_) :=
    fun q a b c d e => ⟨a, b, c, by simp only; omega, by simp only; omega, fun _ => d⟩
  have st : ∀ (d : Nat) (v : Int), Wd v → (s.R.set d v).length = 16 ∧ ∀ r, Wd (vg (s.R.set d v) r) := fun d v hv => ⟨by simpa using hR, vg_W hW d hv⟩
  unfold deedM
  split
  · exact e2 _ (easy _ _ (st _ _ (hW _)).1 (st _ _ (hW _)).2) rfl (Nat.le_succ _) rfl _
  split
  · exact e2 _ (easy _ _ (st _ _ hi).1 (st _ _ hi).2) rfl (Nat.le_succ _) rfl _
  split
  · exact e2 _ (easy _ _ (st _ _ (wd_wU _)).1 (st _ _ (wd_wU _)).2) rfl (Nat.le_succ _) rfl _
  split
  · exact e2 _ (easy _ _ (st _ _ (wd_and _ _)).1 (st _ _ (wd_and _ _)).2) rfl (Nat.le_succ _) rfl _
  split
  · unfold loadM
    split
    · refine e2 _ ?_ ?_ ?_ ?_ _
      · exact ⟨(st _ _ (wd_getTo _ _ _)).1, (st _ _ (wd_getTo _ _ _)).2, by simp; omega, hb⟩
      · rfl
      · simp
      · rfl
    · refine e2 _ ?_ ?_ ?_ ?_ _
      · exact ⟨hR, hW, by simp; omega, hb⟩
      · rfl
      · simp
      · rfl
  split
  · unfold storeM
    refine e2 _ ?_ ?_ ?_ ?_ _
    · refine ⟨hR, hW, by simp; omega, ?_⟩
      simp only
      split
      · exact (putTo_len _ _ _ _).trans hb
      · exact hb
    · rfl
    · simp
    · rfl
  split
  · exact e2 _ (easy _ _ (st _ _ (wd_shiftV _ _ _ (hW _))).1 (st _ _ (wd_shiftV _ _ _ (hW _))).2) rfl (Nat.le_succ _) rfl _
  split
  · exact e2 _ (easy _ _ (st _ _ (wd_do _ _ _ _)).1 (st _ _ (wd_do _ _ _ _)).2) rfl (Nat.le_succ _) rfl _
  split
  · unfold condM
    split
    · have hv : Wd (if holdsB i.cond s.f = true then orU (andN8 (vg s.R i.dst)) 1 else andN8 (vg s.R i.dst)) := by
        split
        · exact wd_or _ _
        · exact wd_andN8 (hW _)
      exact e2 _ (easy _ _ (st _ _ hv).1 (st _ _ hv).2) rfl (Nat.le_succ _) rfl _
    · split
      · exact e2 _ (easy _ _ (st _ _ (hW _)).1 (st _ _ (hW _)).2) rfl (Nat.le_succ _) rfl _
      · exact e2 _ ⟨hR, hW, hsn, hb⟩ rfl (Nat.le_succ _) rfl _
  split
  · have hl := labAt_rng l i.label
    unfold jumpM
    split
    · refine ⟨⟨hR, hW, by simp; omega, hb⟩, rfl, by simp, ?_, ?_, fun h => absurd rfl h⟩
      · simp only; split; exact hl.1; exact h0
      · simp only; split; exact hl.2; exact h1
    · exact ⟨⟨hR, hW, hsn, hb⟩, rfl, Nat.le_succ _, hl.1, hl.2, fun h => absurd rfl h⟩
  · unfold binM
    split
    · exact e2 _ (easy _ _ (st _ _ (wd_do _ _ _ _)).1 (st _ _ (wd_do _ _ _ _)).2) rfl (Nat.le_succ _) rfl _
    · exact e2 { s with f := doF (binOp i) (vg s.R i.dst) (binY i s) s.f } ⟨hR, hW, hsn, hb⟩ rfl (Nat.le_succ _) rfl _
structure RnI (l : List Amd) (fuel : Nat) (s : Mst) : Prop where
  m : MsR s
  at0 : 0 ≤ s.at_
  at1 : s.at_ ≤ l.length
  st0 : 0 ≤ s.steps
  st1 : s.steps ≤ fuel
  sn : (s.seen.length : Int) ≤ s.steps
def muA (l : List Amd) (fuel : Nat) (s : Mst) : Nat := ((fuel : Int) - s.steps).toNat * (l.length + 2) + ((l.length : Int) + 1 - s.at_).toNat
def counts (l : List Amd) (s : Mst) : Bool := match l[s.at_.toNat]? with | none => false | some i => i.op != 19
theorem step_next {lay : List Rg} {l : List Amd} {fuel : Nat} (hf : fuel ≤ 2^32) (hll : l.length ≤ 1048576) (hr : ∀ i ∈ l, Wd i.imm) {s : Mst} (h : RnI l fuel s) (hc : counts l s = true → s.steps ≠ fuel) :
    RnI l fuel (stepM lay l s).1 ∧ ((stepM lay l s).2 = 0 → muA l fuel (stepM lay l s).1 < muA l fuel s) ∧ ((stepM lay l s).2 ≠ 0 → (stepM lay l s).1.at_ = s.at_) := by
  have a0 := h.at0; have a1 := h.at1; have t0 := h.st0; have t1 := h.st1; have n1 := h.sn
  unfold stepM
  unfold counts at hc
  cases hg : l[s.at_.toNat]? with
  | none => exact ⟨h, fun e => absurd (show (6 : Int) = 0 from e) (by decide), fun _ => rfl⟩
  | some i =>
    have hlt : s.at_.toNat < l.length := (List.getElem?_eq_some_iff.1 hg).1
    have hw : IntKind.i64.wrap (s.at_ + 1) = s.at_ + 1 := wrapI (by omega) (by omega)
    rw [hg] at hc
    simp only at hc ⊢
    by_cases h19 : i.op = 19
    · rw [if_pos h19, hw]
      refine ⟨⟨⟨h.m.R, h.m.W, h.m.seen, h.m.b⟩, by simp only; omega, by simp only; omega, t0, t1, n1⟩, fun _ => ?_, fun e => absurd rfl e⟩
      unfold muA
      simp only
      omega
    · rw [if_neg h19]
      have hne : s.steps ≠ fuel := hc (by simp [h19])
      have ht : IntKind.i64.wrap (s.steps + 1) = s.steps + 1 := wrapI (by omega) (by omega)
      by_cases h20 : i.op = 20
      · rw [if_pos h20, ht]
        exact ⟨⟨⟨h.m.R, h.m.W, h.m.seen, h.m.b⟩, a0, a1, by simp only; omega, by simp only; omega, by simp only; omega⟩, fun e => absurd (show (6 : Int) = 0 from e) (by decide), fun _ => rfl⟩
      · rw [if_neg h20, hw, ht]
        have hd := deed_ok lay l i (hr i (List.mem_of_getElem? hg)) { s with steps := s.steps + 1, at_ := s.at_ + 1 } ⟨h.m.R, h.m.W, h.m.seen, h.m.b⟩ (by simp only; omega) (by simp only; omega) (by simp only; omega)
        obtain ⟨D, hD⟩ : ∃ D, D = deedM lay l i { s with steps := s.steps + 1, at_ := s.at_ + 1 } := ⟨_, rfl⟩
        rw [← hD] at hd ⊢
        obtain ⟨d1, d2, d3, d4, d5, d6⟩ := hd
        simp only at d2 d3 d6
        by_cases hz : D.2 = 0
        · rw [if_pos hz]
          refine ⟨⟨d1, d4, d5, by omega, by omega, by omega⟩, fun _ => ?_, fun e => absurd hz e⟩
          unfold muA
          rw [d2]
          obtain ⟨p, hp⟩ : ∃ p : Nat, ((fuel : Int) - s.steps).toNat = p + 1 := ⟨((fuel : Int) - s.steps).toNat - 1, by omega⟩
          have hp2 : ((fuel : Int) - (s.steps + 1)).toNat = p := by omega
          rw [hp, hp2, Nat.succ_mul]
          omega
        · rw [if_neg hz]
          have d6 := d6 hz
          have hw2 : IntKind.i64.wrap (D.1.at_ - 1) = s.at_ := by rw [d6, show s.at_ + 1 - 1 = s.at_ by omega]; exact wrapI (by omega) (by omega)
          refine ⟨⟨⟨d1.R, d1.W, d1.seen, d1.b⟩, by simp only; omega, by simp only; omega, by simp only; omega, by simp only; omega, by simp only; omega⟩, fun e => absurd e hz, fun _ => hw2⟩
def runG (lay : List Rg) (l : List Amd) (fuel : Nat) : Nat → Mst → Mst × Int
  | 0, s => (s, 0)
  | g + 1, s => if counts l s = true ∧ s.steps = fuel then (s, 7)
    else if (stepM lay l s).2 = 0 then runG lay l fuel g (stepM lay l s).1
    else ((stepM lay l s).1, match l[s.at_.toNat]? with | some i => if i.op = 20 then 0 else (stepM lay l s).2 | none => (stepM lay l s).2)
end Go.Proofs
namespace Go.Proofs
open Go.Mu
def stC (s : Mst) : List AV := Regs s.R ++ [Bo s.f.c, Bo s.f.z, Bo s.f.s, Bo s.f.o, Bo s.f.p, I s.at_, I s.steps]
abbrev fl0 : Fl := ⟨false, false, false, false, false⟩
def mst0 (R b : List Int) : Mst := ⟨R, fl0, 0, 0, [], b⟩
def runA (lay : List Rg) (l : List Amd) (fuel : Nat) (R b : List Int) : Mst × Int := runG lay l fuel (muA l fuel (mst0 R b) + 1) (mst0 R b)
theorem weakL_snoc (cs : List AV) {a a' : AV} (h : Weak a a') : WeakL (cs ++ [a]) (cs ++ [a']) := by
  refine ⟨by simp, fun j c c' h1 h2 => ?_⟩
  by_cases hj : j < cs.length
  · rw [List.getElem?_append_left hj] at h1 h2
    rw [h1] at h2; cases h2; exact .refl _
  · rw [List.getElem?_append_right (by omega)] at h1 h2
    cases hk : j - cs.length with
    | zero => rw [hk] at h1 h2; simp at h1 h2; subst h1 h2; exact h
    | succ n => rw [hk] at h1; simp at h1
theorem mac_weak (ks kp kme : Nat) (s : Mst) : WeakL ((mcl ks kp kme s).map (AV.frzS ks 3 (s.seen.map Se.cells))) (stC s ++ [.bp kp 0, .bp kme 0] ++ [Se.sl s.seen]) := by
  have e : (mcl ks kp kme s).map (AV.frzS ks 3 (s.seen.map Se.cells)) = (stC s ++ [.bp kp 0, .bp kme 0]) ++ [gvS 3 (s.seen.map Se.cells)] := by
    unfold mcl stC
    rw [List.map_append]
    have e1 : (Regs s.R).map (AV.frzS ks 3 (s.seen.map Se.cells)) = Regs s.R := by
      rw [List.map_map]
      exact List.map_congr_left fun x _ => frzS_v _ _ _ _
    rw [e1]
    simp
  rw [e]
  exact weakL_snoc _ (Weak.gvS _ _)
theorem spl_app {xs ys : List AV} {n : Nat} (h : xs.length = n) (j : Nat) (v : AV) (hj : j < ys.length) : spl (xs ++ ys) (n + j) [v] = xs ++ ys.set j v := by
  subst h
  rw [spl_set _ _ _ (by simp; omega), List.set_append_right _ _ (by omega), Nat.add_sub_cancel_left]
theorem eqM (k o : Nat) : binE Tryz.prog .eql 34 (.bp k o) (.v (.pointer none)) = some (.v (.bool false)) := by kernel_rfl
theorem arun_ok (l : List Amd) (hm : Lm.mayA l = true) (hr : ∀ i ∈ l, Wd i.imm) (R : List Int) (hR : R.length = 16) (hW : ∀ r, Wd (vg R r)) (lay : List Rg) (hl : lay.length ≤ 16) (ho : ∀ r ∈ lay, r.Ok) (fuel : Nat) (hf : fuel ≤ 64000000) {H : List Blk} {k kb : Nat} {b : List Int} (m : MemAt H k kb lay b) :
    ACalls Tryz.prog 31 [Lm.Amd.sl l, .agg (Regs R), .bp k 0, I fuel] H (fun e M' => e = .ret (.tup [.agg (stC (runA lay l fuel R b).1 ++ [Se.sl (runA lay l fuel R b).1.seen, I (runA lay l fuel R b).2]), .bp (H.length + 3) 0, I 0]) ∧ ∃ X Y, M' = H ++ [X, Y, byB (runA lay l fuel R b).1.b, meB lay (H.length + 2)]) := by
  refine acalls_under fun hu0 _ => acalls_tidy (acalls_of_awp Tryz.func31 rfl (by kernel_rfl) ?_)
  obtain ⟨RG, hRG⟩ : ∃ RG, RG = Regs R := ⟨_, rfl⟩
  have hRl : RG.length = 16 := by rw [hRG]; simpa using hR
  rw [← hRG]
  obtain ⟨Z, hZ⟩ : ∃ Z, Z = List.replicate 16 (U 0) ++ [Bo false, Bo false, Bo false, Bo false, Bo false, I 0, I 0, nilS, I 0] := ⟨_, rfl⟩
  refine awp_cut (fun _ => false) (fun _ => none) (fun f M => M = H ++ [.box 24 RG, .box 71 Z] ∧ f 0 = Lm.Amd.sl l ∧ f 2 = .bp k 0 ∧ f 3 = I fuel ∧ f 5 = .bp H.length 0 ∧ f 8 = .bp (H.length + 1) 0) (by kernel_rfl) ?_ ?_
  · simp -dsimp [hRl]
    exact hZ.symm
  rintro f M ⟨hM, f0, f2, f3, f5, f8⟩
  refine awp_scope_r ?_
  have mM : MemAt M k kb lay b := by rw [hM]; exact ⟨get_app_old m.me _, get_app_old m.bytes _, m.len⟩
  have cc := mcopy_ok mM hl
  refine awp_cut (fun _ => false) (fun _ => none) (fun f M' => M' = M ++ [byB b, meB lay M.length] ∧ f 0 = Lm.Amd.sl l ∧ f 2 = .bp (M.length + 1) 0 ∧ f 3 = I fuel ∧ f 5 = .bp H.length 0 ∧ f 8 = .bp (H.length + 1) 0) (by kernel_rfl) ?_ ?_
  · simp -dsimp [f0, f2, f3, f5, f8]
    refine acallsW_of cc ?_
    rintro e _ ⟨rfl, rfl⟩
    simp -dsimp [f0, f2, f3, f5, f8]
  clear f0 f2 f3 f5 f8 f
  rintro f M2 ⟨hM2, f0, f2, f3, f5, f8⟩
  have eM := fun k o => eqM k o
  refine awp_cut (fun _ => false) (fun _ => none) (fun f M' => M' = M2 ∧ f 0 = Lm.Amd.sl l ∧ f 2 = .bp (M.length + 1) 0 ∧ f 3 = I fuel ∧ f 5 = .bp H.length 0 ∧ f 8 = .bp (H.length + 1) 0) (by kernel_rfl) ?_ ?_
  · simp -dsimp [f0, f2, f3, f5, f8, eM]
  clear f0 f2 f3 f5 f8 f
  rintro f Mx ⟨hMx, f0, f2, f3, f5, f8⟩
  rw [hMx]
  clear hMx Mx
  refine awp_spare 1 ?_
  have hll : l.length ≤ 1048576 := by
    have := hm
    unfold Lm.mayA at this
    simp only [Bool.and_eq_true, decide_eq_true_eq] at this
    exact this.1.1
  have hra : ∀ i ∈ l, AmdR i ∧ Wd i.imm := fun i hi => by
    have := hm
    unfold Lm.mayA at this
    simp only [Bool.and_eq_true, List.all_eq_true, Lm.goodA] at this
    exact ⟨mayOne_r (this.2 i hi).1, hr i hi⟩
  obtain ⟨M3, hM3⟩ : ∃ M3, M3 = M2 ++ List.replicate 1 Blk.pend := ⟨_, rfl⟩
  rw [← hM3]
  have co := Lm.open_ok l (by omega) M3
  rw [if_pos hm, hm] at co
  refine awp_cut (fun _ => false) (fun _ => none) (fun f M4 => (∃ b0 b1 C, M4 = M3 ++ ([b0, b1, .map (Lm.tabM (Lm.labsA l 0)), .box 137 [Lm.Amd.sl l, .hm (M3.length + 2)]] ++ C)) ∧ f 0 = Lm.Amd.sl l ∧ f 2 = .bp (M.length + 1) 0 ∧ f 3 = I fuel ∧ f 5 = .bp H.length 0 ∧ f 8 = .bp (H.length + 1) 0 ∧ f 11 = .bp (M3.length + 3) 0 ∧ f 12 = Bo true) (by kernel_rfl) ?_ ?_
  · simp -dsimp [f0, f2, f3, f5, f8]
    refine acallsW_of co ?_
    rintro e _ ⟨t, C, rfl, rfl, ht⟩
    simp -dsimp [f0, f2, f3, f5, f8]
    rw [ht rfl]
  clear f0 f2 f3 f5 f8 f
  rintro f M4 ⟨⟨b0, b1, C, hM4⟩, f0, f2, f3, f5, f8, f11, f12⟩
  have dn : decide ((fuel : Int) < 0) = false := decide_eq_false (by omega)
  have dg : decide ((64000000 : Int) < (fuel : Int)) = false := decide_eq_false (by omega)
  have dg2 : decide (64000000 < fuel) = false := decide_eq_false (by omega)
  refine awp_cut (fun _ => false) (fun _ => none) (fun f M5 => M5 = M4 ∧ f 0 = Lm.Amd.sl l ∧ f 2 = .bp (M.length + 1) 0 ∧ f 3 = I fuel ∧ f 5 = .bp H.length 0 ∧ f 8 = .bp (H.length + 1) 0 ∧ f 11 = .bp (M3.length + 3) 0) (by kernel_rfl) ?_ ?_
  · simp -dsimp [f0, f2, f3, f5, f8, f11, f12, dn, dg, dg2]
  clear f0 f2 f3 f5 f8 f11 f12 f
  rintro f Mx ⟨hMx, f0, f2, f3, f5, f8, f11⟩
  rw [hMx]
  clear hMx Mx
  have g5 : M4[H.length]? = some (.box 24 RG) := by rw [hM4, hM3, hM2, hM]; simp
  refine awp_cut (fun _ => false) (fun _ => none) (fun f M6 => M6 = M4 ++ [macB M2.length (M3.length + 3) (M.length + 1) (mst0 R b)] ∧ f 0 = Lm.Amd.sl l ∧ f 2 = .bp (M.length + 1) 0 ∧ f 3 = I fuel ∧ f 5 = .bp H.length 0 ∧ f 8 = .bp (H.length + 1) 0 ∧ f 13 = .bp M4.length 0) (by kernel_rfl) ?_ ?_
  · have htk : List.take 16 RG = RG := List.take_of_length_le (by omega)
    have s23 : ∀ x, spl (RG ++ [AV.v (Value.bool false), AV.v (Value.bool false), AV.v (Value.bool false), AV.v (Value.bool false), AV.v (Value.bool false), AV.v (Value.int IntKind.i64 0), AV.v (Value.int IntKind.i64 0), AV.v (Value.pointer none), AV.v (Value.pointer none), AV.v (Value.slice none 0 0)]) 23 [x] = _ := fun x => spl_app hRl 7 x (by simp)
    have s24 : ∀ x y, spl (RG ++ [AV.v (Value.bool false), AV.v (Value.bool false), AV.v (Value.bool false), AV.v (Value.bool false), AV.v (Value.bool false), AV.v (Value.int IntKind.i64 0), AV.v (Value.int IntKind.i64 0), x, AV.v (Value.pointer none), AV.v (Value.slice none 0 0)]) 24 [y] = _ := fun x y => spl_app hRl 8 y (by simp)
    simp only [List.set_cons_succ, List.set_cons_zero] at s23 s24
    simp -dsimp [f0, f2, f3, f5, f8, f11, g5, hRl, htk, s23, s24]
    rw [hRG]
    simp [macB, mcl, mst0]
    exact (ownS_nil _).symm
  clear f0 f2 f3 f5 f8 f11 f g5
  rintro f M5 ⟨hM5, f0, f2, f3, f5, f8, f13⟩
  refine awp_cut (fun _ => false) (fun _ => none) (fun f M6 => M6 = M5 ++ [.map deedMap] ∧ f 0 = Lm.Amd.sl l ∧ f 2 = .bp (M.length + 1) 0 ∧ f 3 = I fuel ∧ f 8 = .bp (H.length + 1) 0 ∧ f 13 = .bp M4.length 0 ∧ f 14 = .hm M5.length) (by kernel_rfl) ?_ ?_
  · simp -dsimp [f0, f2, f3, f5, f8, f13]
    refine acallsW_of (deeds_ok _) ?_
    rintro e _ ⟨rfl, rfl⟩
    simp -dsimp [f0, f2, f3, f5, f8, f13]
  clear f0 f2 f3 f5 f8 f13 f
  rintro f M6 ⟨hM6, f0, f2, f3, f8, f13, f14⟩
  refine awp_cut (fun _ => false) (fun _ => none) (fun f M' => M' = M6 ∧ f 0 = Lm.Amd.sl l ∧ f 2 = .bp (M.length + 1) 0 ∧ f 3 = I fuel ∧ f 8 = .bp (H.length + 1) 0 ∧ f 13 = .bp M4.length 0 ∧ f 14 = .hm M5.length ∧ f 15 = I 0) (by kernel_rfl) ?_ ?_
  · simp -dsimp [f0, f2, f3, f8, f13, f14]
  clear f0 f2 f3 f8 f13 f14 f
  rintro f Mx ⟨hMx, f0, f2, f3, f8, f13, f14, f15⟩
  rw [hMx]
  clear hMx Mx
  have n1 : M.length = H.length + 2 := by rw [hM]; simp
  have n2 : M2.length = H.length + 4 := by rw [hM2]; simp; omega
  have n3 : M3.length = H.length + 5 := by rw [hM3]; simp; omega
  have n4 : M4.length = H.length + 5 + (C.length + 4) := by rw [hM4]; simp; omega
  have n5 : M5.length = M4.length + 1 := by rw [hM5]; simp
  have pre : ∀ X, M6 = M4 ++ X → M6 = M4 ++ X := fun _ h => h
  have e6 : M6 = M4 ++ [macB M2.length (M3.length + 3) (M.length + 1) (mst0 R b), .map deedMap] := by rw [hM6, hM5]; simp
  have e4 : M4 = H ++ ([.box 24 RG, .box 71 Z, byB b, meB lay M.length, .pend, b0, b1, .map (Lm.tabM (Lm.labsA l 0)), .box 137 [Lm.Amd.sl l, .hm (M3.length + 2)]] ++ C) := by rw [hM4, hM3, hM2, hM]; simp
  have at4 : ∀ {i : Nat} {x}, M4[i]? = some x → M6[i]? = some x := fun h => by rw [e6]; exact get_app_old h _
  have atH : ∀ (j : Nat) {x}, ([.box 24 RG, .box 71 Z, byB b, meB lay M.length, .pend, b0, b1, .map (Lm.tabM (Lm.labsA l 0)), .box 137 [Lm.Amd.sl l, .hm (M3.length + 2)]] ++ C)[j]? = some x → M6[H.length + j]? = some x := fun j x h => at4 (by rw [e4, List.getElem?_append_right (by omega), Nat.add_sub_cancel_left]; exact h)
  obtain ⟨G, gg, hG0, hGd⟩ := GA.mk' (M := M6) (km := M4.length) (kp := M3.length + 3) (ka := M3.length + 2) (kme := M.length + 1) (kb := M.length) (ks := M2.length) (l := l) (lay := lay) (s0 := mst0 R b)
    (by simp only [List.nodup_cons, List.mem_cons, List.not_mem_nil, or_false, not_or, not_false_eq_true, List.nodup_nil, and_true]; omega)
    (by rw [e6, List.getElem?_append_right (Nat.le_refl _), Nat.sub_self]; rfl)
    (by rw [show M3.length + 3 = H.length + 8 by omega]; exact atH 8 rfl)
    (by rw [show M3.length + 2 = H.length + 7 by omega]; exact atH 7 rfl)
    ⟨by rw [show M.length + 1 = H.length + 3 by omega]; exact atH 3 rfl, by rw [n1]; exact atH 2 rfl, m.len⟩
    (by rw [n2]; exact atH 4 rfl)
  have hkd : M6[M5.length]? = some (.map deedMap) := by rw [hM6]; simp
  have hdn : M5.length ≠ M4.length ∧ M5.length ≠ M.length ∧ M5.length ≠ M2.length := by omega
  obtain ⟨RES, hRES⟩ : ∃ RES, RES = runA lay l fuel R b := ⟨_, rfl⟩
  rw [← hRES]
  rw [hG0]
  refine awp_seq (awp_label ?_)
  refine awp_cut (fun _ => false) (fun _ => none) (fun f M' => M' = G RES.1 ∧ RnI l fuel RES.1 ∧ f 2 = .bp (M.length + 1) 0 ∧ f 8 = .bp (H.length + 1) 0 ∧ f 13 = .bp M4.length 0 ∧ f 15 = I RES.2) (by kernel_rfl) ?_ ?_
  · simp -dsimp
    refine loop_rule (hn := fun _ => false) (od := fun _ => none) (fun (g : Nat) f M' => (∃ s, M' = G s ∧ RnI l fuel s ∧ muA l fuel s < g ∧ runG lay l fuel g s = RES) ∧ f 0 = Lm.Amd.sl l ∧ f 2 = .bp (M.length + 1) 0 ∧ f 3 = I fuel ∧ f 8 = .bp (H.length + 1) 0 ∧ f 13 = .bp M4.length 0 ∧ f 14 = .hm M5.length) (fun g => g) (by kernel_rfl) (muA l fuel (mst0 R b) + 1) ⟨⟨mst0 R b, rfl, ⟨⟨hR, hW, by simp [mst0], m.len⟩, by simp [mst0], by simp [mst0], by simp [mst0], by simp [mst0], by simp [mst0]⟩, Nat.lt_succ_self _, hRES.symm⟩, f0, f2, f3, f8, f13, f14⟩ ?_
    clear f0 f2 f3 f8 f13 f14 f15 f
    rintro g f _ ⟨⟨s, rfl, hs, hmu, hrun⟩, f0, f2, f3, f8, f13, f14⟩
    obtain ⟨g, rfl⟩ : ∃ g', g = g' + 1 := ⟨g - 1, by omega⟩
    have mac0 : ∀ s, (G s)[M4.length]? = some (.box 88 (mcl M2.length (M3.length + 3) (M.length + 1) s)) := fun s => by have := gg.mac s []; rw [List.append_nil] at this; exact this
    have hsR := hs.m.R
    have d21 := mcl_d21 (ks := M2.length) (kp := M3.length + 3) (kme := M.length + 1) hsR
    have d22 := mcl_d22 (ks := M2.length) (kp := M3.length + 3) (kme := M.length + 1) hsR
    have cs := astep_ok gg hl ho hll hra M5.length hkd hdn s hs.m hs.at0 hs.at1
    obtain ⟨k, hk⟩ : ∃ k : Nat, s.at_ = k := ⟨s.at_.toNat, by have := hs.at0; omega⟩
    obtain ⟨q, hq⟩ : ∃ q : Nat, s.steps = q := ⟨s.steps.toNat, by have := hs.st0; omega⟩
    have hk1 := hs.at1
    rw [hk, hq] at d21
    rw [hq] at d22
    rw [hk] at hk1
    have hnx := step_next (lay := lay) (by omega : fuel ≤ 2^32) hll hr hs
    have hc0 : counts l s = match l[k]? with | none => false | some i => i.op != 19 := by unfold counts; rw [hk]; rfl
    have hg0 : runG lay l fuel (g + 1) s = if counts l s = true ∧ s.steps = fuel then (s, 7) else if (stepM lay l s).2 = 0 then runG lay l fuel g (stepM lay l s).1 else ((stepM lay l s).1, match l[k]? with | some i => if i.op = 20 then 0 else (stepM lay l s).2 | none => (stepM lay l s).2) := by
      conv => lhs; unfold runG
      rw [hk]; rfl
    rw [hg0] at hrun
    clear hg0
    obtain ⟨S, hS⟩ : ∃ S, S = stepM lay l s := ⟨_, rfl⟩
    rw [← hS] at hnx hrun cs
    have hS0 : l[k]? = none → S = (s, 6) := fun h => by rw [hS]; unfold stepM; rw [hk]; simp only [Int.toNat_natCast]; rw [h]
    clear hS
    cases hx : l[k]? with
    | none =>
      have hge : l.length ≤ k := by rw [List.getElem?_eq_none_iff] at hx; exact hx
      have dlt : decide ((k : Int) < (l.length : Int)) = false := decide_eq_false (by omega)
      have dlt2 : decide (k < l.length) = false := decide_eq_false (by omega)
      have hSv := hS0 hx
      rw [hx] at hc0 hrun
      simp only at hc0 hrun
      rw [hc0, if_neg (by simp)] at hrun
      subst hSv
      rw [if_neg (by simp)] at hrun
      simp -dsimp [f0, f2, f3, f8, f13, f14, mac0, d21, d22, dlt, dlt2]
      refine acallsW_of cs ?_
      rintro e _ ⟨rfl, rfl⟩
      simp -dsimp [f0, f2, f3, f8, f13, f14]
      subst hrun
      exact ⟨rfl, hs, rfl⟩
    | some x =>
      have hlt : k < l.length := (List.getElem?_eq_some_iff.1 hx).1
      have dlt : decide ((k : Int) < (l.length : Int)) = true := decide_eq_true (by omega)
      have dlt2 : decide (k < l.length) = true := decide_eq_true (by omega)
      rw [hx] at hc0 hrun
      simp only at hc0 hrun
      have hxm := List.mem_of_getElem? hx
      obtain ⟨op, bin, sh, co, dst, src, imm, base, index, hb, hi', disp, lab⟩ := x
      simp only at hc0 hrun
      have after : ∀ Sx : Mst × Int, Sx = S → (counts l s = true → s.steps ≠ fuel) → (if S.2 = 0 then runG lay l fuel g S.1 else (S.1, if op = 20 then 0 else S.2)) = RES → (S.2 ≠ 0 → S.1.at_ = k) ∧ RnI l fuel S.1 ∧ (S.2 = 0 → muA l fuel S.1 < g ∧ runG lay l fuel g S.1 = RES) ∧ (S.2 ≠ 0 → RES = (S.1, if op = 20 then 0 else S.2)) := fun Sx _ h1 h2 => by
        obtain ⟨a, b', c⟩ := hnx h1
        refine ⟨fun h => by rw [c h, hk], a, fun h => ?_, fun h => ?_⟩
        · rw [if_pos h] at h2
          exact ⟨by have := b' h; omega, h2⟩
        · rw [if_neg h] at h2; exact h2.symm
      have after := after S rfl
      by_cases hcf : counts l s = true ∧ s.steps = fuel
      · rw [if_pos hcf] at hrun
        rw [hc0] at hcf
        have e19 : (op == 19) = false := by simpa using hcf.1
        have eq7 : ((q : Int) == (fuel : Int)) = true := by rw [← hq, hcf.2]; simp
        have eq7' : (q == fuel) = true := by have := hcf.2; rw [hq] at this; simp; omega
        simp -dsimp [f0, f2, f3, f8, f13, f14, mac0, d21, d22, dlt, dlt2, hx, e19, eq7, eq7']
        subst hrun
        exact ⟨rfl, hs, rfl⟩
      · rw [if_neg hcf] at hrun
        obtain ⟨hat, hS1, hcont, hend⟩ := after (fun h1 h2 => hcf ⟨h1, h2⟩) hrun
        clear after hnx hrun
        have d21s := mcl_d21 (ks := M2.length) (kp := M3.length + 3) (kme := M.length + 1) hS1.m.R
        obtain ⟨b19, h19⟩ : ∃ b, (op == 19) = b := ⟨_, rfl⟩
        obtain ⟨bf, hbf⟩ : ∃ b, ((q : Int) == (fuel : Int)) = b := ⟨_, rfl⟩
        have hbf2 : (q == fuel) = bf := by rw [← hbf]; rw [Bool.eq_iff_iff, beq_iff_eq, beq_iff_eq]; omega
        have hno : b19 = true ∨ bf = false := by
          rw [hc0] at hcf
          cases b19
          · right
            cases bf
            · rfl
            · exfalso; apply hcf
              refine ⟨by simp at h19 ⊢; exact h19, ?_⟩
              rw [hq]; simpa using hbf
          · left; rfl
        obtain ⟨b20, h20⟩ : ∃ b, (op == 20) = b := ⟨_, rfl⟩
        by_cases hz : S.2 = 0
        · obtain ⟨c1, c2⟩ := hcont hz
          have z1 : (S.2 != 0) = false := by simp [hz]
          rcases hno with rfl | rfl
          · simp -dsimp [f0, f2, f3, f8, f13, f14, mac0, d21, d22, dlt, dlt2, hx, h19, hbf, hbf2]
            refine acallsW_of cs ?_
            rintro e _ ⟨rfl, rfl⟩
            simp -dsimp [f0, f2, f3, f8, f13, f14, z1]
            exact ⟨g, by omega, S.1, rfl, hS1, c1, c2⟩
          cases b19
          all_goals simp -dsimp [f0, f2, f3, f8, f13, f14, mac0, d21, d22, dlt, dlt2, hx, h19, hbf, hbf2]
          all_goals refine acallsW_of cs ?_
          all_goals rintro e _ ⟨rfl, rfl⟩
          all_goals simp -dsimp [f0, f2, f3, f8, f13, f14, z1]
          all_goals exact ⟨g, by omega, S.1, rfl, hS1, c1, c2⟩
        · have hend := hend hz
          have hat := hat hz
          have z1 : (S.2 != 0) = true := by simp [hz]
          rw [hat] at d21s
          have fin : ∀ b, b = b20 → RES.2 = (if b = true then 0 else S.2) := fun b hb => by
            rw [hend]; subst hb
            simp only
            by_cases e : op = 20
            · rw [if_pos e, if_pos (by rw [← h20]; simp [e])]
            · rw [if_neg e, if_neg (by rw [← h20]; simp [e])]
          have hR1 : RES.1 = S.1 := by rw [hend]
          rcases hno with rfl | rfl
          · cases b20
            all_goals simp -dsimp [f0, f2, f3, f8, f13, f14, mac0, d21, d22, dlt, dlt2, hx, h19, hbf, hbf2]
            all_goals refine acallsW_of cs ?_
            all_goals rintro e _ ⟨rfl, rfl⟩
            all_goals simp -dsimp [f0, f2, f3, f8, f13, f14, z1, mac0, d21s, hx, h20, dlt2, dlt]
            all_goals rw [hR1]
            all_goals exact ⟨rfl, hS1, by rw [fin _ rfl]; rfl⟩
          cases b19 <;> cases b20
          all_goals simp -dsimp [f0, f2, f3, f8, f13, f14, mac0, d21, d22, dlt, dlt2, hx, h19, hbf, hbf2]
          all_goals refine acallsW_of cs ?_
          all_goals rintro e _ ⟨rfl, rfl⟩
          all_goals simp -dsimp [f0, f2, f3, f8, f13, f14, z1, mac0, d21s, hx, h20, dlt2, dlt]
          all_goals rw [hR1]
          all_goals exact ⟨rfl, hS1, by rw [fin _ rfl]; rfl⟩
  clear f0 f2 f3 f8 f13 f14 f15 f
  rintro f Mx ⟨hMx, hRn, f2, f8, f13, f15⟩
  rw [hMx]
  clear hMx Mx
  obtain ⟨s, hs⟩ : ∃ s, s = RES.1 := ⟨_, rfl⟩
  rw [← hs] at hRn ⊢
  obtain ⟨N, hN⟩ : ∃ N, N = H ++ [.box 24 RG, .box 71 Z, byB s.b, meB lay M.length] := ⟨_, rfl⟩
  have nN : N.length = H.length + 4 := by rw [hN]; simp
  obtain ⟨T, hT⟩ : ∃ T, T = b0 :: b1 :: .map (Lm.tabM (Lm.labsA l 0)) :: .box 137 [Lm.Amd.sl l, .hm (M3.length + 2)] :: C := ⟨_, rfl⟩
  have hTl : T.length = C.length + 4 := by rw [hT]; simp
  have hGN : G s = N ++ (seB s.seen :: (T ++ [macB M2.length (M3.length + 3) (M.length + 1) s, .map deedMap])) := by
    rw [hGd, n4, e6, e4, hN, n2, n1]
    have q1 : H ++ ([.box 24 RG, .box 71 Z, byB b, meB lay (H.length + 2), .pend, b0, b1, .map (Lm.tabM (Lm.labsA l 0)), .box 137 [Lm.Amd.sl l, .hm (M3.length + 2)]] ++ C) ++ [macB (H.length + 4) (M3.length + 3) (H.length + 2 + 1) (mst0 R b), .map deedMap] = H ++ (.box 24 RG :: .box 71 Z :: byB b :: meB lay (H.length + 2) :: .pend :: (T ++ [macB (H.length + 4) (M3.length + 3) (H.length + 2 + 1) (mst0 R b), .map deedMap])) := by rw [hT]; simp
    rw [q1, List.set_append_right _ _ (by omega), Nat.add_sub_cancel_left, List.set_append_right _ _ (by omega), Nat.add_sub_cancel_left, List.set_append_right _ _ (by omega)]
    rw [show H.length + 5 + (C.length + 4) - H.length = T.length + 1 + 1 + 1 + 1 + 1 by omega]
    simp only [List.set_cons_succ, List.set_cons_zero]
    rw [List.set_append_right _ _ (Nat.le_refl _), Nat.sub_self]
    simp
  have huN : underH N.length N = true := by
    rw [hN]
    refine underH_appF (by simp) hu0 ?_
    intro x hx
    have hln : ∀ n, (H ++ [Blk.box 24 RG, .box 71 Z, byB s.b, meB lay M.length]).length = n → H.length + 2 < n := by intro n hn; rw [← hn]; simp
    generalize (H ++ [Blk.box 24 RG, .box 71 Z, byB s.b, meB lay M.length]).length = n at hln
    have hln := hln n rfl
    simp only [List.mem_cons, List.not_mem_nil, or_false] at hx
    rcases hx with rfl | rfl | rfl | rfl
    · rw [hRG]
      exact underL_frzB _ _ (fun c hc => by obtain ⟨x, _, rfl⟩ := List.mem_map.1 hc; rfl)
    · rw [hZ]; rfl
    · exact by_under _ _
    · simp only [Blk.under, underL, Bool.and_true, Bool.and_eq_true, AV.under, decide_eq_true_eq]
      exact ⟨trivial, by omega⟩
  rw [hGN]
  refine awp_giveBox huN 0 3 78 (s.seen.map Se.cells) rfl (se_frzB _) (T.length + 1) 88 (mcl M2.length (M3.length + 3) (M.length + 1) s) (stC s ++ [.bp (M3.length + 3) 0, .bp (M.length + 1) 0] ++ [Se.sl s.seen]) (by rw [List.getElem?_cons_succ, List.getElem?_append_right (Nat.le_refl _), Nat.sub_self]; rfl) (by omega) (by rw [show N.length + 0 = M2.length by omega]; exact mac_weak _ _ _ _) ?_
  intro L' f' hf' hL'1 hmac _
  have f2' : f' 2 = .bp (M.length + 1) 0 := by rw [hf', f2]; exact frzS_bp _ _ _ _ _
  have f8' : f' 8 = .bp (H.length + 1) 0 := by rw [hf', f8]; exact frzS_bp _ _ _ _ _
  have f13' : f' 13 = .bp M4.length 0 := by rw [hf', f13]; exact frzS_bp _ _ _ _ _
  have f15' : f' 15 = I RES.2 := by rw [hf', f15]; exact frzS_v _ _ _ _
  have mac : (N ++ L')[M4.length]? = some (.box 88 (stC s ++ [.bp (M3.length + 3) 0, .bp (M.length + 1) 0] ++ [Se.sl s.seen])) := by
    rw [List.getElem?_append_right (by omega), show M4.length - N.length = T.length + 1 by omega]; exact hmac
  have b8 : ∀ Z' L, ((H ++ [.box 24 RG, .box 71 Z', byB s.b, meB lay M.length] : List Blk) ++ L)[H.length + 1]? = some (.box 71 Z') := fun Z' L => by rw [List.append_assoc, List.getElem?_append_right (by omega), Nat.add_sub_cancel_left]; rfl
  have hsl : (stC s).length = 23 := by unfold stC; simp [hRn.m.R]
  obtain ⟨sc, hsc⟩ : ∃ sc, sc = stC s := ⟨_, rfl⟩
  rw [← hsc] at mac hsl
  have t23 : List.take 23 (sc ++ [AV.bp (M3.length + 3) 0, .bp (M.length + 1) 0] ++ [Se.sl s.seen]) = sc := by rw [List.append_assoc, List.take_append_of_le_length (by omega), List.take_of_length_le (by omega)]
  have d25 : List.drop 25 (sc ++ [AV.bp (M3.length + 3) 0, .bp (M.length + 1) 0] ++ [Se.sl s.seen]) = [Se.sl s.seen] := by rw [List.drop_append_of_le_length (by simp [hsl]), List.drop_eq_nil_of_le (by simp [hsl])]; rfl
  have l26 : (sc ++ [AV.bp (M3.length + 3) 0, .bp (M.length + 1) 0] ++ [Se.sl s.seen]).length = 26 := by simp [hsl]
  obtain ⟨mc, hmc⟩ : ∃ mc, mc = sc ++ [AV.bp (M3.length + 3) 0, .bp (M.length + 1) 0] ++ [Se.sl s.seen] := ⟨_, rfl⟩
  rw [← hmc] at mac t23 d25 l26
  have nr : M.length + 1 = H.length + 3 := by omega
  rw [nr] at f2'
  rw [n1] at hN
  obtain ⟨NF, hNF⟩ : ∃ NF : List AV → List Blk, ∀ Z', NF Z' = H ++ [.box 24 RG, .box 71 Z', byB s.b, meB lay (H.length + 2)] := ⟨_, fun _ => rfl⟩
  have hN0 : N = NF Z := by rw [hNF, hN]
  have nNF : ∀ Z', (NF Z').length = N.length := fun Z' => by rw [hNF, nN]; simp
  have mac : ∀ Z', (NF Z' ++ L')[M4.length]? = some (.box 88 mc) := fun Z' => by
    rw [List.getElem?_append_right (by omega)] at mac
    rw [List.getElem?_append_right (by rw [nNF]; omega), nNF]; exact mac
  have b8 : ∀ Z', (NF Z' ++ L')[H.length + 1]? = some (.box 71 Z') := fun Z' => by rw [hNF, List.append_assoc, List.getElem?_append_right (by omega), Nat.add_sub_cancel_left]; rfl
  have s8 : ∀ Z' Z'', (NF Z' ++ L').set (H.length + 1) (.box 71 Z'') = NF Z'' ++ L' := fun Z' Z'' => by
    rw [hNF, hNF, List.append_assoc, List.set_append_right _ _ (by omega), Nat.add_sub_cancel_left, List.append_assoc]; rfl
  have hZl : Z.length = 25 := by rw [hZ]; simp
  have hfrz : ∀ c ∈ stC s ++ [Se.sl s.seen, I RES.2], AV.frzB c = true := fun c hc => by
    unfold stC at hc
    simp only [List.mem_append, List.mem_map, List.mem_cons, List.not_mem_nil, or_false] at hc
    rcases hc with (⟨x, _, rfl⟩ | rfl | rfl | rfl | rfl | rfl | rfl | rfl) | rfl | rfl
    all_goals first
      | rfl
      | (have := se_frzB s.seen; simpa [AV.frzB] using this)
  have fin : ∀ Z', Z' = sc ++ [Se.sl s.seen, I RES.2] → Tidy H (fun e M' => e = .ret (.tup [.agg (stC s ++ [Se.sl s.seen, I RES.2]), .bp (H.length + 3) 0, I 0]) ∧ ∃ X Y, M' = H ++ [X, Y, byB s.b, meB lay (H.length + 2)]) (.ret (.tup [.agg Z', .bp (H.length + 3) 0, I 0])) (NF Z' ++ L') := fun Z' hZ' => by
    refine tidy_to (by rw [nNF, nN]; omega) (fun _ => ?_) ?_ ⟨?_, ?_⟩
    · rw [nNF, hNF]
      refine underH_appF (by omega) hu0 ?_
      intro x hx
      simp only [List.mem_cons, List.not_mem_nil, or_false] at hx
      rcases hx with rfl | rfl | rfl | rfl
      · rw [hRG]
        exact underL_frzB _ _ (fun c hc => by obtain ⟨x, _, rfl⟩ := List.mem_map.1 hc; rfl)
      · rw [hZ', hsc]
        exact underL_frzB _ _ hfrz
      · exact by_under _ _
      · simp only [Blk.under, underL, Bool.and_true, Bool.and_eq_true, AV.under, decide_eq_true_eq]
        exact ⟨trivial, by omega⟩
    · rw [nNF, hZ', hsc]
      simp only [AV.under, underL, Bool.and_true, Bool.and_eq_true, decide_eq_true_eq]
      exact ⟨underL_frzB _ _ hfrz, by omega⟩
    · rw [hZ', hsc]
    · exact ⟨_, _, hNF _⟩
  clear hGN hRES
  rw [hN0]
  refine awp_all (hn := fun _ => false) (od := fun _ => none) (by kernel_rfl) ?_
  have p23 : ∀ x, spl (sc ++ [AV.v (Value.slice none 0 0), AV.v (Value.int IntKind.i64 0)]) 23 [x] = _ := fun x => spl_app hsl 0 x (by simp)
  have p24 : ∀ x y, spl (sc ++ [x, AV.v (Value.int IntKind.i64 0)]) 24 [y] = _ := fun x y => spl_app hsl 1 y (by simp)
  simp only [List.set_cons_succ, List.set_cons_zero] at p23 p24
  have one : ∀ c ∈ sc, AV.one c = true := fun c hc => by
    rw [hsc] at hc
    unfold stC at hc
    simp only [List.mem_append, List.mem_map, List.mem_cons, List.not_mem_nil, or_false] at hc
    rcases hc with ⟨x, _, rfl⟩ | rfl | rfl | rfl | rfl | rfl | rfl | rfl <;> rfl
  have one' : sc.all AV.one = true := List.all_eq_true.2 one
  simp -dsimp [f2', f8', f13', f15', mac, t23, d25, l26, hsl, p23, p24, b8, s8, one', hZl]
  have dz : List.drop 25 Z = [] := List.drop_eq_nil_of_le (by omega)
  rw [dz, List.take_of_length_le (by simp [hsl])]
  exact fin _ rfl
end Go.Proofs
namespace Go.Proofs
open Go.Mu
theorem zeroBig_0 : (Tryz.zeroCells127.toList.all fun v => match v with | .int .u8 n => n == 0 | _ => false) = true := by kernel_rfl
theorem zeroB_get (i : Nat) : zeroB.getD i 0 = 0 := by
  have h1 := zeroBig_ex.choose_spec.1
  have h0 := zeroBig_0
  rw [h1, List.all_map, List.all_eq_true] at h0
  rw [List.getD_eq_getElem?_getD]
  cases h : zeroB[i]? with
  | none => rfl
  | some x =>
    have := h0 x (List.mem_of_getElem? h)
    simpa using this
theorem getTo_zero (a : Nat) : ∀ n, getTo zeroB a n = 0
  | 0 => rfl
  | n + 1 => by
    rw [getTo, getTo_zero a n, zeroB_get]
    have e : IntKind.u64.wrap (IntKind.u64.wrap 0 * 2 ^ (8 * n)) = 0 := by
      have : IntKind.u64.wrap 0 = 0 := by decide
      rw [this, Int.zero_mul, this]
    rw [e]; decide
theorem getD_set (b : List Int) (i j : Nat) (x : Int) (h : i < b.length) : (b.set i x).getD j 0 = if i = j then x else b.getD j 0 := by
  rw [List.getD_eq_getElem?_getD, List.getD_eq_getElem?_getD]
  by_cases e : i = j
  · subst e; rw [List.getElem?_set_self h, if_pos rfl]; rfl
  · rw [List.getElem?_set_ne e, if_neg e]
theorem putTo_getD (b : List Int) (a : Nat) (x : Int) (h : a + 8 ≤ b.length) : ∀ n, n ≤ 8 → ∀ j, (putTo b a x n).getD j 0 = if a ≤ j ∧ j < a + n then IntKind.u8.wrap (x.fdiv (2 ^ (8 * (j - a)))) else b.getD j 0
  | 0, _, j => by rw [putTo, if_neg (by omega)]
  | n + 1, hn, j => by
    rw [putTo, getD_set _ _ _ _ (by rw [putTo_len]; omega), putTo_getD b a x h n (by omega) j]
    by_cases e : a + n = j
    · subst e
      rw [if_pos rfl, if_pos (by omega), Nat.add_sub_cancel_left]
    · rw [if_neg e]
      by_cases e2 : a ≤ j ∧ j < a + n
      · rw [if_pos e2, if_pos (by omega)]
      · rw [if_neg e2, if_neg (by omega)]
theorem get_put9 (b : List Int) (a : Nat) (h : a + 8 ≤ b.length) : getW (putW b a 9) a = 9 := by
  have g : ∀ i, i < 8 → (putW b a 9).getD (a + i) 0 = IntKind.u8.wrap ((9 : Int).fdiv (2 ^ (8 * i))) := fun i hi => by
    unfold putW
    rw [putTo_getD b a 9 h 8 (Nat.le_refl _), if_pos (by omega), Nat.add_sub_cancel_left]
  unfold getW
  simp only [getTo]
  rw [g 0 (by omega), g 1 (by omega), g 2 (by omega), g 3 (by omega), g 4 (by omega), g 5 (by omega), g 6 (by omega), g 7 (by omega)]
  decide
abbrev am0 : Amd := ⟨0, 0, 0, 0, 0, 0, 0, 0, 0, false, false, 0, 0⟩
def code5 : List Amd := [{ am0 with op := 2, dst := 3, imm := 5 }, { am0 with op := 19, label := 7 }, { am0 with op := 6, bin := 3, dst := 3, imm := 1 }, { am0 with op := 18, cond := 5, label := 7 }, { am0 with op := 20 }]
def regs0 : List Int := [0, 0, 0, 0, 0, 0, 0, 0, 0, 0, 0, 0, 0, 0, 0, 0]
def regs9 : List Int := [9, 0, 0, 0, 49152, 0, 0, 0, 0, 0, 0, 0, 0, 0, 0, 0]
def code2 : List Amd := [{ am0 with op := 4, src := 0, base := 4, hasBase := true, disp := 8 }, { am0 with op := 20 }]
def code1 : List Amd := [{ am0 with op := 3, dst := 3, disp := 3 }]
theorem run5 (b : List Int) : runA [] code5 100 regs0 b = (⟨regs0, ⟨false, true, false, false, true⟩, 4, 12, [⟨true, true, 0⟩, ⟨true, true, 0⟩, ⟨true, true, 0⟩, ⟨true, true, 0⟩, ⟨true, false, 0⟩], b⟩, 0) := by kernel_rfl
theorem run2 (b : List Int) : runA [] code2 100 regs9 b = (⟨regs9, fl0, 1, 2, [⟨false, false, 49160⟩], putW b 49160 9⟩, 0) := by kernel_rfl
theorem run1 (b : List Int) : runA [] code1 100 regs9 b = (⟨regs9, fl0, 0, 1, [⟨false, false, 3⟩], b⟩, 2) := by kernel_rfl
theorem run0 (b : List Int) : runA [] [] 100 regs9 b = (⟨regs9, fl0, 0, 0, [], b⟩, 6) := by kernel_rfl
theorem may5 : Lm.mayA code5 = true := by kernel_rfl
theorem may2 : Lm.mayA code2 = true := by kernel_rfl
theorem may1 : Lm.mayA code1 = true := by kernel_rfl
theorem may0 : Lm.mayA [] = true := by kernel_rfl
end Go.Proofs
namespace Go.Proofs
open Go.Mu
theorem law19_num (n : Int) (H : List Blk) : ACalls Tryz.prog 12 [I n] H (fun e H' => e = .ret (I n) ∧ H' = H) := by
  refine acalls_of_vc (hn := fun _ => false) (od := fun _ => none) Tryz.func12 rfl (by kernel_rfl) ?_
  simp -dsimp
theorem law19_code (H : List Blk) : ACalls Tryz.prog 32 [] H (fun e H' => e = .ret (Lm.Amd.sl code5) ∧ H' = H) := by
  refine acalls_of_vc (hn := fun _ => false) (od := fun _ => none) Tryz.func32 rfl (by kernel_rfl) ?_
  simp -dsimp
  rfl
theorem all_W {R : List Int} (h : R.all (fun x => decide (0 ≤ x) && decide (x < 18446744073709551616)) = true) : ∀ r, Wd (vg R r) := by
  intro r
  unfold vg
  rw [List.getD_eq_getElem?_getD]
  cases hg : R[r.toNat]? with
  | none => exact wd_0
  | some x =>
    rw [List.all_eq_true] at h
    have := h x (List.mem_of_getElem? hg)
    simp only [Bool.and_eq_true, decide_eq_true_eq] at this
    exact this
theorem no_ok : ∀ r ∈ ([] : List Rg), r.Ok := fun r h => by cases h
theorem imm_W {l : List Amd} (h : l.all (fun i => decide (0 ≤ i.imm) && decide (i.imm < 18446744073709551616)) = true) : ∀ i ∈ l, Wd i.imm := fun i hi => by
  rw [List.all_eq_true] at h
  have := h i hi
  simp only [Bool.and_eq_true, decide_eq_true_eq] at this
  exact this
theorem mnew0_ok (H : List Blk) : ACalls Tryz.prog 27 [nilS] H (fun e H' => e = .ret (.tup [.bp (H.length + 1) 0, I 0]) ∧ H' = GM H [] zeroB) :=
  acalls_weak (WeakL.cons (.nil 4) WeakL.nil) (mnew_ok [] (by kernel_rfl) H)
abbrev raC (s : Mst) (e : Int) : List AV := stC s ++ [Se.sl s.seen, I e]
theorem known19_ok (H : List Blk) : ACalls Tryz.prog 8 [] H (fun e H' => e = .ret (Bo true) ∧ H' = H) := by
  refine acalls_tidy (acalls_of_awp Tryz.func8 rfl (by kernel_rfl) ?_)
  have w0 : ∀ r, Wd (vg regs0 r) := all_W (by decide)
  have w9 : ∀ r, Wd (vg regs9 r) := all_W (by decide)
  have r5 := fun {H : List Blk} {k kb : Nat} {b : List Int} (m : MemAt H k kb [] b) => arun_ok code5 may5 (imm_W (by decide)) regs0 rfl w0 [] (by simp) no_ok 100 (by omega) m
  have r2 := fun {H : List Blk} {k kb : Nat} {b : List Int} (m : MemAt H k kb [] b) => arun_ok code2 may2 (imm_W (by decide)) regs9 rfl w9 [] (by simp) no_ok 100 (by omega) m
  have r1 := fun {H : List Blk} {k kb : Nat} {b : List Int} (m : MemAt H k kb [] b) => arun_ok code1 may1 (imm_W (by decide)) regs9 rfl w9 [] (by simp) no_ok 100 (by omega) m
  have r0 := fun {H : List Blk} {k kb : Nat} {b : List Int} (m : MemAt H k kb [] b) => acalls_weak (args := [nilS, .agg (Regs regs9), .bp k 0, I 100]) (WeakL.cons (.nil 13) (WeakL.refl _)) (arun_ok [] may0 (imm_W (by decide)) regs9 rfl w9 [] (by simp) no_ok 100 (by omega) m)
  simp only [run5, run2, run1, run0] at r5 r2 r1 r0
  have c5 := law19_code
  have cn := law19_num
  refine awp_cut (fun _ => false) (fun _ => none) (fun f M => M = H ++ []) (by kernel_rfl) ?_ ?_
  · simp -dsimp
  rintro f M hM
  rw [List.append_nil] at hM
  rw [hM]
  clear hM M
  refine awp_cut (fun _ => false) (fun _ => none) (fun f M => M = GM H [] zeroB ∧ f 1 = .bp (H.length + 1) 0) (by kernel_rfl) ?_ ?_
  · simp -dsimp
    refine acallsW_of (mnew0_ok _) ?_
    rintro e _ ⟨rfl, rfl⟩
    simp -dsimp
  clear f
  rintro f M ⟨hM, f1⟩
  have m0 : MemAt M (H.length + 1) H.length [] zeroB := by rw [hM]; exact gm_at' H [] zeroB_len
  have pre : ∃ L, M = H ++ L := ⟨_, hM⟩
  clear hM
  obtain ⟨k1, hk1⟩ : ∃ k1, k1 = H.length + 1 := ⟨_, rfl⟩
  obtain ⟨q1, hq1⟩ : ∃ q1, q1 = H.length := ⟨_, rfl⟩
  rw [← hk1] at m0 f1
  rw [← hq1] at m0
  clear hk1 hq1
  have zl : (Regs regs0) = [U 0, U 0, U 0, U 0, U 0, U 0, U 0, U 0, U 0, U 0, U 0, U 0, U 0, U 0, U 0, U 0] := rfl
  have h5' : regs0.length = 16 := rfl
  obtain ⟨E5, hE5⟩ : ∃ E5, E5 = raC ⟨regs0, ⟨false, true, false, false, true⟩, 4, 12, [⟨true, true, 0⟩, ⟨true, true, 0⟩, ⟨true, true, 0⟩, ⟨true, true, 0⟩, ⟨true, false, 0⟩], zeroB⟩ 0 := ⟨_, rfl⟩
  obtain ⟨E2, hE2⟩ : ∃ E2, E2 = raC ⟨regs9, fl0, 1, 2, [⟨false, false, 49160⟩], putW zeroB 49160 9⟩ 0 := ⟨_, rfl⟩
  obtain ⟨E1, hE1⟩ : ∃ E1, E1 = raC ⟨regs9, fl0, 0, 1, [⟨false, false, 3⟩], zeroB⟩ 2 := ⟨_, rfl⟩
  obtain ⟨E0, hE0⟩ : ∃ E0, E0 = raC ⟨regs9, fl0, 0, 0, [], zeroB⟩ 6 := ⟨_, rfl⟩
  refine awp_cut (fun _ => false) (fun _ => none) (fun f M' => (∃ k3 L, M' = M ++ L ∧ f 3 = .bp k3 0 ∧ M'[k3]? = some (.box 71 E5)) ∧ f 1 = .bp k1 0 ∧ f 5 = I 0) (by kernel_rfl) ?_ ?_
  · rw [hE5]
    simp -dsimp [f1]
    refine acallsW_det (c5 _) ?_
    simp -dsimp [f1]
    refine acallsW_of (r5 m0) ?_
    rintro e _ ⟨rfl, X, Y', rfl⟩
    simp -dsimp [f1, stC, regs0]
    rfl
  clear f1 f
  rintro f Ma ⟨⟨k3, La, hMa, f3, g3⟩, f1, f5⟩
  replace m0 : MemAt Ma k1 q1 [] zeroB := by rw [hMa]; exact ⟨get_app_old m0.me _, get_app_old m0.bytes _, m0.len⟩
  replace pre : ∃ L, Ma = H ++ L := by obtain ⟨L, hL⟩ := pre; exact ⟨L ++ La, by rw [hMa, hL, List.append_assoc]⟩
  clear hMa La
  refine awp_cut (fun _ => false) (fun _ => none) (fun f M' => M' = Ma ++ [.box 24 (Regs regs0)] ∧ f 6 = .bp Ma.length 0 ∧ f 1 = .bp k1 0 ∧ f 3 = .bp k3 0 ∧ f 5 = I 0) (by kernel_rfl) ?_ ?_
  · rw [zl]
    simp -dsimp [f1, f3, f5]
  clear f1 f3 f5 f
  rintro f Mb ⟨hMb, f6, f1, f3, f5⟩
  rw [hMb]
  clear hMb Mb
  refine awp_cut (fun _ => false) (fun _ => none) (fun f M' => M' = Ma ++ [.box 24 (Regs regs9)] ∧ f 6 = .bp Ma.length 0 ∧ f 1 = .bp k1 0 ∧ f 3 = .bp k3 0 ∧ f 5 = I 0) (by kernel_rfl) ?_ ?_
  · rw [zl]
    simp -dsimp [f1, f3, f5, f6]
    rfl
  clear f1 f3 f5 f6 f
  rintro f Mb ⟨hMb, f6, f1, f3, f5⟩
  rw [hMb]
  clear hMb Mb
  refine awp_cut (fun _ => false) (fun _ => none) (fun f M' => M' = Ma ++ [.box 24 (Regs regs9), .box 54 [I 4, I 0, Bo true, Bo false, I 8]] ∧ f 6 = .bp Ma.length 0 ∧ f 7 = .bp (Ma.length + 1) 0 ∧ f 1 = .bp k1 0 ∧ f 3 = .bp k3 0 ∧ f 5 = I 0) (by kernel_rfl) ?_ ?_
  · simp -dsimp [f1, f3, f5, f6]
  clear f1 f3 f5 f6 f
  rintro f Mb ⟨hMb, f6, f7, f1, f3, f5⟩
  replace m0 : MemAt Mb k1 q1 [] zeroB := by rw [hMb]; exact ⟨get_app_old m0.me _, get_app_old m0.bytes _, m0.len⟩
  replace g3 : Mb[k3]? = some (.box 71 E5) := by rw [hMb]; exact get_app_old g3 _
  have g6 : Mb[Ma.length]? = some (.box 24 (Regs regs9)) := by rw [hMb]; simp
  have g7 : Mb[Ma.length + 1]? = some (.box 54 [I 4, I 0, Bo true, Bo false, I 8]) := by rw [hMb]; simp
  replace pre : ∃ L, Mb = H ++ L := by obtain ⟨L, hL⟩ := pre; exact ⟨L ++ _, by rw [hMb, hL, List.append_assoc]⟩
  have pre6 : Ma.length < Mb.length := lt_of_get g6
  obtain ⟨k6, hk6⟩ : ∃ k, k = Ma.length := ⟨_, rfl⟩
  rw [← hk6] at f6 f7 g6 g7
  clear hMb hk6 pre6
  clear Ma
  have cl9 : (Regs regs9) = [U 9, U 0, U 0, U 0, U 49152, U 0, U 0, U 0, U 0, U 0, U 0, U 0, U 0, U 0, U 0, U 0] := rfl
  rw [cl9] at g6
  refine awp_cut (fun _ => false) (fun _ => none) (fun f M' => (∃ k8 kb8 L, M' = Mb ++ L ∧ f 8 = .bp k8 0 ∧ M'[k8]? = some (.box 71 E2) ∧ f 9 = .bp (Mb.length + 3) 0 ∧ MemAt M' (Mb.length + 3) kb8 [] (putW zeroB 49160 9)) ∧ f 10 = I 0 ∧ f 6 = .bp k6 0 ∧ f 1 = .bp k1 0 ∧ f 3 = .bp k3 0 ∧ f 5 = I 0) (by kernel_rfl) ?_ ?_
  · rw [hE2]
    simp -dsimp [f1, f3, f5, f6, f7, g6, g7]
    refine acallsW_of (r2 m0) ?_
    rintro e _ ⟨rfl, X, Y', rfl⟩
    simp -dsimp [f1, f3, f5, f6, f7, stC, regs9]
    exact ⟨rfl, Mb.length + 2, by simp, by simp, by rw [putW, putTo_len]; exact zeroB_len⟩
  clear f1 f3 f5 f6 f7 f
  rintro f Mc ⟨⟨k8, kb8, Lc, hMc, f8, g8, f9, m9⟩, f10, f6, f1, f3, f5⟩
  replace m0 : MemAt Mc k1 q1 [] zeroB := by rw [hMc]; exact ⟨get_app_old m0.me _, get_app_old m0.bytes _, m0.len⟩
  replace g3 : Mc[k3]? = some (.box 71 E5) := by rw [hMc]; exact get_app_old g3 _
  replace g6 := get_app_old g6 Lc
  rw [← hMc] at g6
  replace pre : ∃ L, Mc = H ++ L := by obtain ⟨L, hL⟩ := pre; exact ⟨L ++ _, by rw [hMc, hL, List.append_assoc]⟩
  obtain ⟨k9, hk9⟩ : ∃ k, k = Mb.length + 3 := ⟨_, rfl⟩
  rw [← hk9] at f9 m9
  clear hMc hk9 g7
  clear Mb
  refine awp_cut (fun _ => false) (fun _ => none) (fun f M' => (∃ k11 L, M' = Mc ++ L ∧ f 11 = .bp k11 0 ∧ M'[k11]? = some (.box 71 E1)) ∧ f 13 = I 0 ∧ f 8 = .bp k8 0 ∧ f 9 = .bp k9 0 ∧ f 10 = I 0 ∧ f 6 = .bp k6 0 ∧ f 1 = .bp k1 0 ∧ f 3 = .bp k3 0 ∧ f 5 = I 0) (by kernel_rfl) ?_ ?_
  · rw [hE1]
    simp -dsimp [f1, f3, f5, f6, f8, f9, f10, g6]
    refine acallsW_of (r1 m0) ?_
    rintro e _ ⟨rfl, X, Y', rfl⟩
    simp -dsimp [f1, f3, f5, f6, f8, f9, f10, stC, regs9]
    rfl
  clear f1 f3 f5 f6 f8 f9 f10 f
  rintro f Md ⟨⟨k11, Ld, hMd, f11, g11⟩, f13, f8, f9, f10, f6, f1, f3, f5⟩
  replace m0 : MemAt Md k1 q1 [] zeroB := by rw [hMd]; exact ⟨get_app_old m0.me _, get_app_old m0.bytes _, m0.len⟩
  replace m9 : MemAt Md k9 kb8 [] (putW zeroB 49160 9) := by rw [hMd]; exact ⟨get_app_old m9.me _, get_app_old m9.bytes _, m9.len⟩
  replace g3 : Md[k3]? = some (.box 71 E5) := by rw [hMd]; exact get_app_old g3 _
  replace g8 : Md[k8]? = some (.box 71 E2) := by rw [hMd]; exact get_app_old g8 _
  replace g6 := get_app_old g6 Ld
  rw [← hMd] at g6
  replace pre : ∃ L, Md = H ++ L := by obtain ⟨L, hL⟩ := pre; exact ⟨L ++ _, by rw [hMd, hL, List.append_assoc]⟩
  clear hMd
  clear Mc
  refine awp_cut (fun _ => false) (fun _ => none) (fun f M' => (∃ k14 L, M' = Md ++ L ∧ f 14 = .bp k14 0 ∧ M'[k14]? = some (.box 71 E0)) ∧ f 16 = I 0 ∧ f 11 = .bp k11 0 ∧ f 13 = I 0 ∧ f 8 = .bp k8 0 ∧ f 9 = .bp k9 0 ∧ f 10 = I 0 ∧ f 1 = .bp k1 0 ∧ f 3 = .bp k3 0 ∧ f 5 = I 0) (by kernel_rfl) ?_ ?_
  · rw [hE0]
    simp -dsimp [f1, f3, f5, f6, f8, f9, f10, f11, f13, g6]
    refine acallsW_of (r0 m0) ?_
    rintro e _ ⟨rfl, X, Y', rfl⟩
    simp -dsimp [f1, f3, f5, f6, f8, f9, f10, f11, f13, stC, regs9]
    rfl
  clear f1 f3 f5 f6 f8 f9 f10 f11 f13 f
  rintro f Me ⟨⟨k14, Le, hMe, f14, g14⟩, f16, f11, f13, f8, f9, f10, f1, f3, f5⟩
  replace m0 : MemAt Me k1 q1 [] zeroB := by rw [hMe]; exact ⟨get_app_old m0.me _, get_app_old m0.bytes _, m0.len⟩
  replace m9 : MemAt Me k9 kb8 [] (putW zeroB 49160 9) := by rw [hMe]; exact ⟨get_app_old m9.me _, get_app_old m9.bytes _, m9.len⟩
  replace g3 : Me[k3]? = some (.box 71 E5) := by rw [hMe]; exact get_app_old g3 _
  replace g8 : Me[k8]? = some (.box 71 E2) := by rw [hMe]; exact get_app_old g8 _
  replace g11 : Me[k11]? = some (.box 71 E1) := by rw [hMe]; exact get_app_old g11 _
  replace pre : ∃ L, Me = H ++ L := by obtain ⟨L, hL⟩ := pre; exact ⟨L ++ _, by rw [hMe, hL, List.append_assoc]⟩
  clear hMe g6
  clear Md
  have eM := fun k o => eqM k o
  have ask : askE [] 49160 = 0 := by kernel_rfl
  have c9 := mload_ok m9 (by simp) no_ok 49160 (by decide) (by decide)
  have c0 := mload_ok m0 (by simp) no_ok 49160 (by decide) (by decide)
  rw [if_pos ask, ask, show ((49160 : Int)).toNat = 49160 by rfl, get_put9 _ _ (by rw [zeroB_len]; decide)] at c9
  rw [if_pos ask, ask, show ((49160 : Int)).toNat = 49160 by rfl, show getW zeroB 49160 = 0 from getTo_zero _ _] at c0
  refine awp_cut (fun _ => false) (fun _ => none) (fun f M' => M' = Me ∧ f 1 = .bp k1 0 ∧ f 9 = .bp k9 0 ∧ f 14 = .bp k14 0 ∧ f 11 = .bp k11 0 ∧ f 8 = .bp k8 0 ∧ f 3 = .bp k3 0) (by kernel_rfl) ?_ ?_
  · simp -dsimp [f1, f3, f5, f8, f9, f10, f11, f13, f14, f16]
    refine acallsW_det (cn _ _) ?_
    simp -dsimp [f1, f3, f5, f8, f9, f10, f11, f13, f14, f16]
    refine acallsW_det (cn _ _) ?_
    simp -dsimp [f1, f3, f5, f8, f9, f10, f11, f13, f14, f16]
    refine acallsW_det (cn _ _) ?_
    simp -dsimp [f1, f3, f5, f8, f9, f10, f11, f13, f14, f16]
    refine acallsW_det (cn _ _) ?_
    simp -dsimp [f1, f3, f5, f8, f9, f10, f11, f13, f14, f16, i64_0, eM]
  clear f1 f3 f5 f8 f9 f10 f11 f13 f14 f16 f
  rintro f Mx ⟨hMx, f1, f9, f14, f11, f8, f3⟩
  rw [hMx]
  clear hMx Mx
  refine awp_cut (fun _ => false) (fun _ => none) (fun f M' => M' = Me ∧ f 17 = U 9 ∧ f 1 = .bp k1 0 ∧ f 14 = .bp k14 0 ∧ f 11 = .bp k11 0 ∧ f 8 = .bp k8 0 ∧ f 3 = .bp k3 0) (by kernel_rfl) ?_ ?_
  · simp -dsimp [f1, f3, f8, f9, f11, f14]
    refine acallsW_det c9 ?_
    simp -dsimp [f1, f3, f8, f9, f11, f14]
  clear f1 f3 f8 f9 f11 f14 f
  rintro f Mx ⟨hMx, f17, f1, f14, f11, f8, f3⟩
  rw [hMx]
  clear hMx Mx
  refine awp_cut (fun _ => false) (fun _ => none) (fun f M' => M' = Me ∧ f 17 = U 9 ∧ f 19 = U 0 ∧ f 14 = .bp k14 0 ∧ f 11 = .bp k11 0 ∧ f 8 = .bp k8 0 ∧ f 3 = .bp k3 0) (by kernel_rfl) ?_ ?_
  · simp -dsimp [f1, f3, f8, f11, f14, f17]
    refine acallsW_det c0 ?_
    simp -dsimp [f1, f3, f8, f11, f14, f17]
  clear f1 f3 f8 f11 f14 f17 f
  rintro f Mx ⟨hMx, f17, f19, f14, f11, f8, f3⟩
  rw [hMx]
  clear hMx Mx
  simp only [raC, stC, regs9, regs0, fl0, List.map_cons, List.map_nil, List.cons_append, List.nil_append, Se.cells] at hE5 hE2 hE1 hE0
  rw [hE5] at g3
  rw [hE2] at g8
  rw [hE1] at g11
  rw [hE0] at g14
  have qS1 : binE Tryz.prog .eql 78 (.agg [Bo true, Bo true, U 0]) (.agg [Bo true, Bo true, U 0]) = some (Bo true) := by kernel_rfl
  have qS2 : binE Tryz.prog .eql 78 (.agg [Bo true, Bo false, U 0]) (.agg [Bo true, Bo false, U 0]) = some (Bo true) := by kernel_rfl
  refine awp_cut (fun _ => false) (fun _ => none) (fun f M' => M' = Me ∧ f 17 = U 9 ∧ f 19 = U 0 ∧ f 21 = Bo true ∧ f 14 = .bp k14 0 ∧ f 11 = .bp k11 0 ∧ f 8 = .bp k8 0 ∧ f 3 = .bp k3 0) (by kernel_rfl) ?_ ?_
  · simp -dsimp [f3, f8, f11, f14, f17, f19, g3, qS1, qS2]
    refine acallsW_det (cn _ _) ?_
    simp -dsimp [f3, f8, f11, f14, f17, f19]
  clear f3 f8 f11 f14 f17 f19 f
  rintro f Mx ⟨hMx, f17, f19, f21, f14, f11, f8, f3⟩
  rw [hMx]
  clear hMx Mx
  refine awp_all (hn := fun _ => false) (od := fun _ => none) (by kernel_rfl) ?_
  obtain ⟨L, hL⟩ := pre
  simp -dsimp [f8, f11, f14, f17, f19, f21, g8, g11, g14]
  refine acallsW_det (cn _ _) ?_
  simp -dsimp [f8, f11, f14, f17, f19, f21, g8, g11, g14]
  refine acallsW_det (cn _ _) ?_
  simp -dsimp [f8, f11, f14, f17, f19, f21, g8, g11, g14]
  refine acallsW_det (cn _ _) ?_
  simp -dsimp [f8, f11, f14, f17, f19, f21, g8, g11, g14]
  rw [hL]
  exact tidy_same rfl ⟨rfl, rfl⟩
end Go.Proofs
namespace Go.Proofs
open Go.Mu
def stZ : List AV := [U 0, U 0, U 0, U 0, U 0, U 0, U 0, U 0, U 0, U 0, U 0, U 0, U 0, U 0, U 0, U 0, Bo false, Bo false, Bo false, Bo false, Bo false, I 0, I 0]
end Go.Proofs
