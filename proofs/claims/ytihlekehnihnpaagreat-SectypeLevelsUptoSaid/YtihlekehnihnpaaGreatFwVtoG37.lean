/- A call that is handed in what it may only read: own memory stays as it is, whatever own rows the arguments show. -/
import Derived.Test.YtihlekehnihnpaaGreatFwUtoG24
set_option linter.unusedVariables false
set_option linter.unusedSimpArgs false
set_option maxHeartbeats 4000000
set_option maxRecDepth 100000
namespace Go.Mu
open Go.RowKit (Below)
section
variable {P : Program}
def Shows (H : List Blk) (args args' : List AV) : Prop := ∀ B w0 cx vals, HRel B w0 cx → cx.H = H → RepL cx false args vals → ∃ cx1, HRel B w0 cx1 ∧ cx1.w = cx.w ∧ RepL cx1 false args' vals
theorem Shows.refl (H : List Blk) (args : List AV) : Shows H args args := fun B w0 cx vals h1 h2 h3 => ⟨cx, h1, rfl, h3⟩
theorem Shows.row {H : List Blk} {args args' : List AV} (k sz : Nat) (t : TypeId) (es : List (List AV)) (hk : H[k]? = some (.row t sz es)) (hz : es.flatten.all AV.frzB = true) (h : Shows (frzH k sz es H) (frzL k sz es args) args') : Shows H args args' := by
  intro B w0 cx vals h1 h2 h3
  subst h2
  obtain ⟨cx1, a, b, c⟩ := h B w0 (cx.frz k sz es) vals (hrel_frz h1 hk hz) rfl (repL_frz h1 hk hz h3)
  exact ⟨cx1, a, b, c⟩
theorem acalls_apart {fid : FuncId} {args args' : List AV} {H : List Blk} {x : Value} (hs : Shows H args args') (hu : underL 0 args' = true) (h : ACalls P fid args' [] (fun e H' => e = .ret (.v x) ∧ H' = [])) :
    ACalls P fid args H (fun e H' => e = .ret (.v x) ∧ H' = H) := by
  intro B w0 cx vals h1 h2 h3
  subst h2
  obtain ⟨cx1, a1, a2, a3⟩ := hs B w0 cx vals h1 rfl h3
  have e1 : cx1.H = [] ++ cx1.H := rfl
  have r1 := repL_cut e1 a3 hu
  have hr : HRel cx.w.heap.size cx.w (cx1.cut []) := by
    refine ⟨?_, ?_, fun b hb => ?_, fun k bl hk => ?_, fun k k' bl bl' hk => ?_⟩
    · show Below _ cx.w cx1.w
      rw [a2]; exact Below.refl _ _
    · show _ ≤ cx1.w.heap.size
      rw [a2]; exact Nat.le_refl _
    · exact a1.frz b hb
    · simp [Cx.cut] at hk
    · simp [Cx.cut] at hk
  have := h cx.w.heap.size cx.w (cx1.cut []) vals hr rfl r1
  rw [show (cx1.cut []).w = cx.w from a2] at this
  refine this.mono fun e w' he => ?_
  cases e with
  | returned y =>
    obtain ⟨cx', r, rfl, b1, b2, b3, b4, b5⟩ := he
    cases b4
    have hb : Below cx.w.heap.size cx.w cx'.w := b1.below
    refine ⟨{ cx with w := cx'.w }, .v x, rfl, hrel_ext h1 hb, ⟨fun b o x hf hc => ?_, fun b h => h, fun k bl hk hf => ⟨bl, hk, hf, rfl⟩, fun k t sz es hk => .inr ⟨es, hk, Nat.le_refl _, fun _ => ⟨rfl, rfl⟩⟩⟩, ?_, rfl, rfl⟩
    · show cx'.w.cell? _ = _
      rw [hb.cell (h1.frz b hf)]; exact hc
    · obtain rfl := b3.v_inv
      exact .v _
  | panicked ch => obtain ⟨cx', x', y, rfl, b1, b2, b3, b4, b5, b6⟩ := he; cases b5
  | outgrown => exact he
end
end Go.Mu
namespace Go.Proofs
open Go.Mu
theorem any_drop {α : Type} {p : α → Bool} {l : List α} {i : Nat} (h : i < l.length) : (l.drop i).any p = (p l[i] || (l.drop (i + 1)).any p) := by rw [drop_cons h, List.any_cons]
theorem rhas_ok (l : List ByteArray) (s : ByteArray) (hl : l.length ≤ 2^40) (H : List Blk) : ACalls Tryz.prog 49 [St.sl l, St s] H (fun e H' => e = .ret (Bo (l.any fun x => decide (s = x))) ∧ H' = H) := by
  refine acalls_of_vc (hn := fun _ => false) (od := fun _ => none) Tryz.func49 rfl (by kernel_rfl) ?_
  simp -dsimp
  obtain ⟨B, hB⟩ : ∃ B, B = l.any fun x => decide (s = x) := ⟨_, rfl⟩
  rw [← hB]
  refine loop_rule (hn := fun _ => false) (od := fun _ => none) (fun (i : Nat) f H' => H = H' ∧ f 0 = St.sl l ∧ f 1 = St s ∧ f 5 = I i ∧ i ≤ l.length ∧ (l.drop i).any (fun x => decide (s = x)) = B) (fun i => l.length - i) (by kernel_rfl) 0 (by simp [hB]) ?_
  rintro i f _ ⟨rfl, h0, h1, h5, hi, hinv⟩
  simp -dsimp [h0, h1, h5]
  refine condVW_introD (fun hlt => ?_) (fun hlt => ?_)
  · rw [any_drop hlt] at hinv
    simp -dsimp [h0, h1, h5, List.getElem?_eq_getElem, hlt]
    refine condVW_introD (fun hp => ?_) (fun hp => ?_)
    · simp -dsimp
      rw [← hinv]; simp [hp]
    · simp -dsimp [h0, h1, h5]
      rw [decide_eq_false (fun e => hp e.symm), Bool.false_or] at hinv
      exact ⟨i + 1, by omega, wrapS (by omega), by omega, hinv⟩
  · simp -dsimp
    rw [drop_end hlt] at hinv
    exact hinv.symm
theorem rown_ok (s : ByteArray) (H : List Blk) : ACalls Tryz.prog 93 [St s] H (fun e H' => e = .ret (Bo (ownW.any fun x => decide (s = x))) ∧ H' = H) := by
  refine acalls_of_vc (hn := fun _ => false) (od := fun _ => none) Tryz.func93 rfl (by kernel_rfl) ?_
  simp -dsimp
  obtain ⟨B, hB⟩ : ∃ B, B = ownW.any fun x => decide (s = x) := ⟨_, rfl⟩
  rw [← hB]
  have hl : ownW.length = 11 := rfl
  refine loop_rule (hn := fun _ => false) (od := fun _ => none) (fun (i : Nat) f H' => H = H' ∧ f 0 = St s ∧ f 3 = St.sl ownW ∧ f 4 = I i ∧ i ≤ 11 ∧ (ownW.drop i).any (fun x => decide (s = x)) = B) (fun i => 11 - i) (by kernel_rfl) 0 (by simp [hB]; rfl) ?_
  rintro i f _ ⟨rfl, h0, h3, h4, hi, hinv⟩
  simp -dsimp [h0, h3, h4, hl]
  refine condVW_introD (fun hlt => ?_) (fun hlt => ?_)
  · have hlt' : i < ownW.length := by rw [hl]; omega
    rw [any_drop hlt'] at hinv
    simp -dsimp [h0, h3, h4, List.getElem?_eq_getElem, hlt']
    refine condVW_introD (fun hp => ?_) (fun hp => ?_)
    · simp -dsimp
      rw [← hinv]; simp [hp]
    · simp -dsimp [h0, h3, h4]
      rw [decide_eq_false (fun e => hp e.symm), Bool.false_or] at hinv
      exact ⟨i + 1, by omega, wrapS (by omega), by omega, hinv⟩
  · simp -dsimp
    rw [drop_end (by rw [hl]; omega)] at hinv
    exact hinv.symm
theorem badB_iff (b : UInt8) : badB b = true ↔ ((b.toNat : Int) < 97 ∨ 122 < (b.toNat : Int)) ∧ ((b.toNat : Int) < 48 ∨ 57 < (b.toNat : Int)) ∧ (b.toNat : Int) ≠ 95 := by
  unfold badB
  simp [and_assoc]
theorem rname_ok (s : ByteArray) (hs : s.size ≤ 2^40) (H : List Blk) : ACalls Tryz.prog 48 [St s] H (fun e H' => e = .ret (Bo (namedB s)) ∧ H' = H) := by
  refine acalls_of_awp Tryz.func48 rfl (by kernel_rfl) ?_
  have co := fun H => rown_ok s H
  obtain ⟨⟨l⟩⟩ := s
  have hs : l.length ≤ 2^40 := hs
  refine awp_cut (fun _ => false) (fun _ => none) (fun f H' => H = H' ∧ f 0 = St ⟨⟨l⟩⟩) (by kernel_rfl) ?_ ?_
  · simp -dsimp
  rintro g _ ⟨rfl, g0⟩
  refine awp_cut (fun _ => false) (fun _ => none) (fun f H' => H = H' ∧ f 0 = St ⟨⟨l⟩⟩ ∧ namedB ⟨⟨l⟩⟩ = !l.any badB) (by kernel_rfl) ?_ ?_
  · cases l with
    | nil =>
      simp -dsimp [g0]
      rfl
    | cons b l =>
      simp -dsimp [g0]
      repeat' ((with_reducible first | refine And.intro ?_ ?_ | refine guardVW_introTD (fun _ => ?_) (fun _ => ?_) | refine guardVW_introFD (fun _ => ?_) (fun _ => ?_) | refine condVW_introD (fun _ => ?_) (fun _ => ?_) | refine guardVW_introTE (fun _ => ?_) (fun _ _ _ => ?_) | refine guardVW_introFE (fun _ => ?_) (fun _ _ _ => ?_) | refine condVW_introE (fun _ => ?_) (fun _ _ _ => ?_) | refine guardVW_introTNE (fun _ _ _ => ?_) (fun _ => ?_) | refine guardVW_introFNE (fun _ _ _ => ?_) (fun _ => ?_) | refine condVW_introNE (fun _ _ _ => ?_) (fun _ => ?_) | refine guardVW_introTB (fun _ => ?_) (fun _ => ?_) | refine guardVW_introFB (fun _ => ?_) (fun _ => ?_) | refine condVW_introB (fun _ => ?_) (fun _ => ?_) | refine guardVW_introT (fun _ => ?_) (fun _ => ?_) | refine guardVW_introF (fun _ => ?_) (fun _ => ?_) | refine condVW_intro (fun _ => ?_) (fun _ => ?_) | refine acallsW_det (co _) ?_ | refine callDW_intro (co _) ?_) <;> simp -dsimp [g0, *])
      all_goals first
        | (exfalso; omega)
        | (simp [namedB, lowB, *]; done)
        | (simp [namedB, lowB, *]; intros; omega)
        | trace_state
  clear g g0
  rintro g _ ⟨rfl, g0, hN⟩
  rw [hN]
  obtain ⟨B, hB⟩ : ∃ B, B = l.any badB := ⟨_, rfl⟩
  rw [← hB]
  clear hN
  refine awp_all (fun _ => false) (fun _ => none) (by kernel_rfl) ?_
  simp -dsimp [g0]
  refine loop_rule (hn := fun _ => false) (od := fun _ => none) (fun (i : Nat) f H' => H = H' ∧ f 0 = St ⟨⟨l⟩⟩ ∧ f 3 = I i ∧ i ≤ l.length ∧ (l.drop i).any badB = B) (fun i => l.length - i) (by kernel_rfl) 0 (by simp [hB, g0]) ?_
  clear g g0 hB
  rintro i f _ ⟨rfl, h0, h3, hi, hinv⟩
  simp -dsimp [h0, h3]
  refine condVW_introD (fun hlt => ?_) (fun hlt => ?_)
  · rw [any_drop hlt] at hinv
    obtain ⟨b, hb⟩ : ∃ b, b = l[i] := ⟨_, rfl⟩
    rw [← hb] at hinv
    replace hinv := Hid.mk hinv
    clear co
    simp -dsimp [h0, h3, List.getElem?_eq_getElem, hlt, ← hb]
    replace hb := Hid.mk hb
    repeat' ((with_reducible first | refine And.intro ?_ ?_ | refine guardVW_introTD (fun _ => ?_) (fun _ => ?_) | refine guardVW_introFD (fun _ => ?_) (fun _ => ?_) | refine condVW_introD (fun _ => ?_) (fun _ => ?_) | refine guardVW_introTE (fun _ => ?_) (fun _ _ _ => ?_) | refine guardVW_introFE (fun _ => ?_) (fun _ _ _ => ?_) | refine condVW_introE (fun _ => ?_) (fun _ _ _ => ?_) | refine guardVW_introTNE (fun _ _ _ => ?_) (fun _ => ?_) | refine guardVW_introFNE (fun _ _ _ => ?_) (fun _ => ?_) | refine condVW_introNE (fun _ _ _ => ?_) (fun _ => ?_) | refine guardVW_introTB (fun _ => ?_) (fun _ => ?_) | refine guardVW_introFB (fun _ => ?_) (fun _ => ?_) | refine condVW_introB (fun _ => ?_) (fun _ => ?_) | refine guardVW_introT (fun _ => ?_) (fun _ => ?_) | refine guardVW_introF (fun _ => ?_) (fun _ => ?_) | refine condVW_intro (fun _ => ?_) (fun _ => ?_)) <;> simp -dsimp [h0, h3, *])
    all_goals replace hinv := hinv.out
    all_goals try simp only [beq_iff_eq, beq_eq_false_iff_ne, ne_eq] at *
    all_goals first
      | (have e : badB b = true := by rw [badB_iff]; omega
         rw [e] at hinv
         rw [← hinv]; rfl)
      | (have e : badB b = false := by rw [Bool.eq_false_iff, ne_eq, badB_iff]; omega
         rw [e, Bool.false_or] at hinv
         exact ⟨i + 1, by omega, wrapS (by omega), by omega, hinv⟩)
      | trace_state
  · simp -dsimp
    rw [drop_end hlt] at hinv
    rw [← hinv]; rfl
theorem rparams_ok (f : Fc) (s : ByteArray) (hl : f.params.length ≤ 2^40) (H : List Blk) : ACalls Tryz.prog 168 [.agg f.cells, St s] H (fun e H' => e = .ret (Bo (f.params.any fun v => decide (v.name = s))) ∧ H' = H) := by
  refine acalls_tidy (acalls_of_vc (hn := fun _ => false) (od := fun _ => none) Tryz.func168 rfl (by kernel_rfl) ?_)
  obtain ⟨B, hB⟩ : ∃ B, B = f.params.any fun v => decide (v.name = s) := ⟨_, rfl⟩
  rw [← hB]
  obtain ⟨M, hM⟩ : ∃ M, M = H ++ [.box 37 f.cells] := ⟨_, rfl⟩
  have hMb : M[H.length]? = some (.box 37 f.cells) := by rw [hM]; simp
  have fin : ∀ b, b = B → Tidy H (fun e H' => e = .ret (Bo B) ∧ H' = H) (.ret (Bo b)) M := fun b hb => by rw [hM, hb]; exact tidy_same rfl ⟨rfl, rfl⟩
  simp only [Fc.cells] at hM hMb
  simp -dsimp
  rw [← hM]
  refine loop_rule (hn := fun _ => false) (od := fun _ => none) (fun (i : Nat) g H' => M = H' ∧ g 2 = .bp H.length 0 ∧ g 1 = St s ∧ g 5 = I i ∧ i ≤ f.params.length ∧ (f.params.drop i).any (fun v => decide (v.name = s)) = B) (fun i => f.params.length - i) (by kernel_rfl) 0 (by simp [hB]) ?_
  clear hB hM
  rintro i g _ ⟨rfl, h2, h1, h5, hi, hinv⟩
  simp -dsimp [h1, h2, h5, hMb]
  refine condVW_introD (fun hlt => ?_) (fun hlt => ?_)
  · rw [any_drop hlt] at hinv
    simp -dsimp [h1, h2, h5, hMb, List.getElem?_eq_getElem, hlt]
    refine condVW_introD (fun hp => ?_) (fun hp => ?_)
    · simp -dsimp
      exact fin _ (by rw [← hinv]; simp [hp])
    · simp -dsimp [h1, h2, h5]
      rw [decide_eq_false hp, Bool.false_or] at hinv
      exact ⟨i + 1, by omega, wrapS (by omega), by omega, hinv⟩
  · simp -dsimp
    rw [drop_end hlt] at hinv
    exact fin _ hinv
theorem nothing_ok (e : Ex) (H : List Blk) : ACalls Tryz.prog 130 [.agg e.cells] H (fun x H' => x = .ret (Bo (blankB e)) ∧ H' = H) := by
  refine acalls_tidy (acalls_of_vc (hn := fun _ => false) (od := fun _ => none) Tryz.func130 rfl (by kernel_rfl) ?_)
  simp -dsimp
  repeat' ((with_reducible first | refine And.intro ?_ ?_ | refine guardVW_introTD (fun _ => ?_) (fun _ => ?_) | refine guardVW_introFD (fun _ => ?_) (fun _ => ?_) | refine condVW_introD (fun _ => ?_) (fun _ => ?_) | refine guardVW_introTE (fun _ => ?_) (fun _ _ _ => ?_) | refine guardVW_introFE (fun _ => ?_) (fun _ _ _ => ?_) | refine condVW_introE (fun _ => ?_) (fun _ _ _ => ?_) | refine guardVW_introTNE (fun _ _ _ => ?_) (fun _ => ?_) | refine guardVW_introFNE (fun _ _ _ => ?_) (fun _ => ?_) | refine condVW_introNE (fun _ _ _ => ?_) (fun _ => ?_) | refine guardVW_introTB (fun _ => ?_) (fun _ => ?_) | refine guardVW_introFB (fun _ => ?_) (fun _ => ?_) | refine condVW_introB (fun _ => ?_) (fun _ => ?_) | refine guardVW_introT (fun _ => ?_) (fun _ => ?_) | refine guardVW_introF (fun _ => ?_) (fun _ => ?_) | refine condVW_intro (fun _ => ?_) (fun _ => ?_)) <;> simp -dsimp [*])
  all_goals exact tidy_same rfl ⟨by simp [blankB, *], rfl⟩
theorem rargs_ok (op : Int) (H : List Blk) : ACalls Tryz.prog 70 [I op] H (fun e H' => e = .ret (I (argsN op)) ∧ H' = H) := by
  refine acalls_tidy (acalls_of_vc (hn := fun _ => false) (od := fun _ => none) Tryz.func70 rfl (by kernel_rfl) ?_)
  simp -dsimp
  repeat' ((with_reducible first | refine And.intro ?_ ?_ | refine guardVW_introTD (fun _ => ?_) (fun _ => ?_) | refine guardVW_introFD (fun _ => ?_) (fun _ => ?_) | refine condVW_introD (fun _ => ?_) (fun _ => ?_) | refine guardVW_introTE (fun _ => ?_) (fun _ _ _ => ?_) | refine guardVW_introFE (fun _ => ?_) (fun _ _ _ => ?_) | refine condVW_introE (fun _ => ?_) (fun _ _ _ => ?_) | refine guardVW_introTNE (fun _ _ _ => ?_) (fun _ => ?_) | refine guardVW_introFNE (fun _ _ _ => ?_) (fun _ => ?_) | refine condVW_introNE (fun _ _ _ => ?_) (fun _ => ?_) | refine guardVW_introTB (fun _ => ?_) (fun _ => ?_) | refine guardVW_introFB (fun _ => ?_) (fun _ => ?_) | refine condVW_introB (fun _ => ?_) (fun _ => ?_) | refine guardVW_introT (fun _ => ?_) (fun _ => ?_) | refine guardVW_introF (fun _ => ?_) (fun _ => ?_) | refine condVW_intro (fun _ => ?_) (fun _ => ?_)) <;> simp -dsimp [*])
  all_goals refine tidy_now rfl ⟨?_, rfl⟩
  all_goals unfold argsN
  all_goals congr 2
  all_goals repeat' split
  all_goals first | rfl | omega | trace_state
end Go.Proofs
namespace Go.Proofs
open Go.Mu
theorem rvars_ok (f : Fc) (hp : f.params.length ≤ 2^36) (hv : f.vars.length ≤ 2^36) (H : List Blk) : ACalls Tryz.prog 47 [.agg f.cells] H (fun e H' => e = .ret (Vr.sl (f.params ++ f.vars)) ∧ H' = H) := by
  refine acalls_under fun hu _ => acalls_tidy (acalls_weakE (acalls_spare 1 (acalls_of_vc (hn := fun d => d == 5 || d == 8) (od := fun i => if i = 1 then some [(0, []), (1, []), (3, []), (4, []), (2, [3, 4]), (5, []), (6, [])] else none) Tryz.func47 rfl (by kernel_rfl) ?_)))
  have done : ∀ (ws : List Vr) L, ws = f.params ++ f.vars → WeakE (Tidy H fun e H' => e = AE.ret (Vr.sl (f.params ++ f.vars)) ∧ H' = H) (.ret (ownS H.length (ws.map Vr.cells))) (H ++ ownB 67 4 (ws.map Vr.cells) :: L) := fun ws L e => by
    subst e
    by_cases hw : f.params ++ f.vars = []
    · rw [hw]
      refine tidy_weak (.nil 4) ?_
      exact tidy_same rfl ⟨rfl, rfl⟩
    · have hne : (f.params ++ f.vars).map Vr.cells ≠ [] := by simpa using hw
      have hz : ((f.params ++ f.vars).map Vr.cells).flatten.all AV.frzB = true := by
        rw [List.all_eq_true]
        intro c hc
        obtain ⟨b, hb, hcb⟩ := List.mem_flatten.1 hc
        obtain ⟨v, _, rfl⟩ := List.mem_map.1 hb
        simp at hcb
        rcases hcb with rfl | rfl | rfl | rfl <;> rfl
      refine tidy_weak (.refl _) ?_
      rw [ownB, if_neg hne]
      refine tidy_give1 hu 4 _ _ hz ?_ ?_
      · rw [frz_own _ _ _ hne]; rfl
      · rw [frz_own _ _ _ hne]; exact ⟨rfl, rfl⟩
  simp -dsimp
  refine appendVW_nilown H.length (by simp) (by simp; omega) (by simp; omega) ?_
  simp -dsimp
  refine appendVW_own (es := f.params.map Vr.cells) (by simp) (by simp; omega) (by simp; omega) ?_
  simp -dsimp
  rw [← List.map_append]
  exact done _ _ rfl
def findV : List Vr → ByteArray → Int
  | [], _ => 0
  | v :: l, n => if v.name = n then (if v.kind = 1 then 1 else 2) else findV l n
def findR : List Rg → ByteArray → Int
  | [], _ => 0
  | r :: l, n => if r.name = n then 3 else findR l n
def findK (rs : List Rg) (vs : List Vr) (n : ByteArray) : Int := if findV vs n = 0 then findR rs n else findV vs n
theorem find_ok (p : Pg) (k : Nat) (n : ByteArray) (hp : p.Ok) (hk : k < p.funcs.length) (H : List Blk) : ACalls Tryz.prog 73 [.agg p.cells, I k, St n] H (fun e H' => (∃ i, e = .ret (.tup [I (findK p.regions (p.funcs[k].params ++ p.funcs[k].vars) n), I i])) ∧ H' = H) := by
  refine acalls_tidy (acalls_of_awp Tryz.func73 rfl (by kernel_rfl) ?_)
  obtain ⟨M, hM⟩ : ∃ M, M = H ++ [.box 25 p.cells] := ⟨_, rfl⟩
  have hMb : M[H.length]? = some (.box 25 p.cells) := by rw [hM]; simp
  obtain ⟨F, hF⟩ : ∃ F, F = p.funcs[k] := ⟨_, rfl⟩
  have h1 := hp.params _ (List.getElem_mem hk)
  have h2 := hp.vars _ (List.getElem_mem hk)
  have h3 := hp.regions
  rw [← hF] at h1 h2 ⊢
  obtain ⟨vs, hvs⟩ : ∃ vs, vs = F.params ++ F.vars := ⟨_, rfl⟩
  have hvl : vs.length ≤ 2^40 := by rw [hvs]; simp; omega
  have cv := fun H => rvars_ok F h1 h2 H
  simp only [Fc.cells] at cv
  rw [← hvs] at cv ⊢
  obtain ⟨K, hK⟩ : ∃ K, K = findK p.regions vs n := ⟨_, rfl⟩
  rw [← hK]
  have fin : ∀ c i, c = K → Tidy H (fun e H' => (∃ i, e = .ret (.tup [I K, I i])) ∧ H' = H) (.ret (.tup [I c, I i])) M := fun c i hc => by rw [hM, hc]; exact tidy_same rfl ⟨⟨i, rfl⟩, rfl⟩
  simp only [Pg.cells] at hM hMb
  refine awp_cut (fun _ => false) (fun _ => none) (fun f H' => M = H' ∧ f 3 = .bp H.length 0 ∧ f 1 = I k ∧ f 2 = St n) (by kernel_rfl) ?_ ?_
  · simp -dsimp [hM]
  clear hM
  rintro g _ ⟨rfl, g3, g1, g2⟩
  refine awp_cut (fun _ => false) (fun _ => none) (fun f H' => M = H' ∧ f 3 = .bp H.length 0 ∧ f 2 = St n ∧ f 8 = Vr.sl vs) (by kernel_rfl) ?_ ?_
  · simp -dsimp [g1, g2, g3, hMb, List.getElem?_eq_getElem, hk, ← hF]
    refine acallsW_det (cv _) ?_
    simp -dsimp [g1, g2, g3]
  clear g g1 g2 g3 hF cv hvs h1 h2
  rintro g _ ⟨rfl, g3, g2, g8⟩
  refine awp_cut (fun _ => false) (fun _ => none) (fun f H' => M = H' ∧ f 3 = .bp H.length 0 ∧ f 2 = St n ∧ findV vs n = 0) (by kernel_rfl) ?_ ?_
  · simp -dsimp [g2, g3, g8]
    refine loop_rule (hn := fun _ => false) (od := fun _ => none) (fun (i : Nat) f H' => M = H' ∧ f 3 = .bp H.length 0 ∧ f 2 = St n ∧ f 8 = Vr.sl vs ∧ f 9 = I i ∧ i ≤ vs.length ∧ findV (vs.drop i) n = findV vs n) (fun i => vs.length - i) (by kernel_rfl) 0 (by simp [g2, g3, g8]) ?_
    clear g g2 g3 g8
    rintro i g _ ⟨rfl, g3, g2, g8, g9, hi, hinv⟩
    simp -dsimp [g2, g3, g8, g9]
    refine condVW_introD (fun hlt => ?_) (fun hlt => ?_)
    · rw [drop_cons hlt, findV] at hinv
      simp -dsimp [g2, g3, g8, g9, List.getElem?_eq_getElem, hlt]
      refine condVW_introD (fun hp => ?_) (fun hp => ?_)
      · rw [if_pos hp] at hinv
        simp -dsimp [g2, g3, g8, g9, List.getElem?_eq_getElem, hlt]
        refine condVW_introE (fun hk1 => ?_) (fun hk1 _ _ => ?_)
        · rw [if_pos hk1] at hinv
          simp -dsimp [g2, g3, g8, g9]
          exact fin _ _ (by rw [hK, findK, ← hinv]; rfl)
        · rw [if_neg hk1] at hinv
          simp -dsimp [g2, g3, g8, g9]
          exact fin _ _ (by rw [hK, findK, ← hinv]; rfl)
      · rw [if_neg hp] at hinv
        simp -dsimp [g2, g3, g8, g9]
        exact ⟨i + 1, by omega, wrapS (by omega), by omega, hinv⟩
    · rw [drop_end hlt, findV] at hinv
      simp -dsimp [g2, g3]
      exact hinv.symm
  clear g g2 g3 g8
  rintro g _ ⟨rfl, g3, g2, h0⟩
  rw [findK, if_pos h0] at hK
  refine awp_all (fun _ => false) (fun _ => none) (by kernel_rfl) ?_
  simp -dsimp [g2, g3]
  refine loop_rule (hn := fun _ => false) (od := fun _ => none) (fun (i : Nat) f H' => M = H' ∧ f 3 = .bp H.length 0 ∧ f 2 = St n ∧ f 10 = I i ∧ i ≤ p.regions.length ∧ findR (p.regions.drop i) n = K) (fun i => p.regions.length - i) (by kernel_rfl) 0 (by simp [g2, g3, hK]) ?_
  clear g g2 g3
  rintro i g _ ⟨rfl, g3, g2, g10, hi, hinv⟩
  simp -dsimp [g2, g3, g10, hMb]
  refine condVW_introD (fun hlt => ?_) (fun hlt => ?_)
  · rw [drop_cons hlt, findR] at hinv
    simp -dsimp [g2, g3, g10, hMb, List.getElem?_eq_getElem, hlt]
    refine condVW_introD (fun hp => ?_) (fun hp => ?_)
    · rw [if_pos hp] at hinv
      simp -dsimp [g2, g3, g10]
      exact fin _ _ hinv
    · rw [if_neg hp] at hinv
      simp -dsimp [g2, g3, g10]
      exact ⟨i + 1, by omega, wrapS (by omega), by omega, hinv⟩
  · rw [drop_end hlt, findR] at hinv
    simp -dsimp [g2, g3]
    exact fin _ _ hinv
def wordK (k : Int) : Int := if k = 0 then 8 else if k = 1 then 0 else 9
def arrayK (k : Int) : Int := if k = 0 then 8 else if k = 1 then 9 else 0
theorem rword_ok (p : Pg) (k : Nat) (n : ByteArray) (hp : p.Ok) (hk : k < p.funcs.length) (H : List Blk) : ACalls Tryz.prog 71 [.agg p.cells, I k, St n] H (fun e H' => e = .ret (I (wordK (findK p.regions (p.funcs[k].params ++ p.funcs[k].vars) n))) ∧ H' = H) := by
  refine acalls_tidy (acalls_of_vc (hn := fun _ => false) (od := fun _ => none) Tryz.func71 rfl (by kernel_rfl) ?_)
  have cf := fun H => find_ok p k n hp hk H
  simp only [Pg.cells] at cf
  simp -dsimp
  refine acallsW_of (cf _) ?_
  rintro _ _ ⟨⟨i, rfl⟩, rfl⟩
  simp -dsimp
  repeat' ((with_reducible first | refine And.intro ?_ ?_ | refine guardVW_introTD (fun _ => ?_) (fun _ => ?_) | refine guardVW_introFD (fun _ => ?_) (fun _ => ?_) | refine condVW_introD (fun _ => ?_) (fun _ => ?_) | refine guardVW_introTE (fun _ => ?_) (fun _ _ _ => ?_) | refine guardVW_introFE (fun _ => ?_) (fun _ _ _ => ?_) | refine condVW_introE (fun _ => ?_) (fun _ _ _ => ?_) | refine guardVW_introTNE (fun _ _ _ => ?_) (fun _ => ?_) | refine guardVW_introFNE (fun _ _ _ => ?_) (fun _ => ?_) | refine condVW_introNE (fun _ _ _ => ?_) (fun _ => ?_) | refine guardVW_introTB (fun _ => ?_) (fun _ => ?_) | refine guardVW_introFB (fun _ => ?_) (fun _ => ?_) | refine condVW_introB (fun _ => ?_) (fun _ => ?_) | refine guardVW_introT (fun _ => ?_) (fun _ => ?_) | refine guardVW_introF (fun _ => ?_) (fun _ => ?_) | refine condVW_intro (fun _ => ?_) (fun _ => ?_)) <;> simp -dsimp [*])
  all_goals exact tidy_same rfl ⟨by simp [wordK, *], rfl⟩
theorem rarray_ok (p : Pg) (k : Nat) (n : ByteArray) (hp : p.Ok) (hk : k < p.funcs.length) (H : List Blk) : ACalls Tryz.prog 72 [.agg p.cells, I k, St n] H (fun e H' => e = .ret (I (arrayK (findK p.regions (p.funcs[k].params ++ p.funcs[k].vars) n))) ∧ H' = H) := by
  refine acalls_tidy (acalls_of_vc (hn := fun _ => false) (od := fun _ => none) Tryz.func72 rfl (by kernel_rfl) ?_)
  have cf := fun H => find_ok p k n hp hk H
  simp only [Pg.cells] at cf
  simp -dsimp
  refine acallsW_of (cf _) ?_
  rintro _ _ ⟨⟨i, rfl⟩, rfl⟩
  simp -dsimp
  repeat' ((with_reducible first | refine And.intro ?_ ?_ | refine guardVW_introTD (fun _ => ?_) (fun _ => ?_) | refine guardVW_introFD (fun _ => ?_) (fun _ => ?_) | refine condVW_introD (fun _ => ?_) (fun _ => ?_) | refine guardVW_introTE (fun _ => ?_) (fun _ _ _ => ?_) | refine guardVW_introFE (fun _ => ?_) (fun _ _ _ => ?_) | refine condVW_introE (fun _ => ?_) (fun _ _ _ => ?_) | refine guardVW_introTNE (fun _ _ _ => ?_) (fun _ => ?_) | refine guardVW_introFNE (fun _ _ _ => ?_) (fun _ => ?_) | refine condVW_introNE (fun _ _ _ => ?_) (fun _ => ?_) | refine guardVW_introTB (fun _ => ?_) (fun _ => ?_) | refine guardVW_introFB (fun _ => ?_) (fun _ => ?_) | refine condVW_introB (fun _ => ?_) (fun _ => ?_) | refine guardVW_introT (fun _ => ?_) (fun _ => ?_) | refine guardVW_introF (fun _ => ?_) (fun _ => ?_) | refine condVW_intro (fun _ => ?_) (fun _ => ?_)) <;> simp -dsimp [*])
  all_goals exact tidy_same rfl ⟨by simp [arrayK, *], rfl⟩
end Go.Proofs
namespace Go.Proofs
open Go.Mu
structure NamesAt (p : Pg) (k : Nat) (hk : k < p.funcs.length) (tv : List (ByteArray × Vr)) (ta : List (ByteArray × Bool)) : Prop where
  word : ∀ n, wordE tv ta n = wordK (findK p.regions (p.funcs[k].params ++ p.funcs[k].vars) n)
  array : ∀ n, arrayE tv ta n = arrayK (findK p.regions (p.funcs[k].params ++ p.funcs[k].vars) n)
def kindX (e : Ex) : Int := thenE (mustE (decide (0 ≤ argsN e.op) && (e.args.length : Int) == argsN e.op) 9) (mustE (e.op == 1 || e.word == 0) 9)
def nameX (tv : List (ByteArray × Vr)) (ta : List (ByteArray × Bool)) (e : Ex) : Int := if e.op = 2 then wordE tv ta e.name else if e.op = 3 then arrayE tv ta e.name else mustE e.name.toList.isEmpty 9
theorem Ex.chk_eq2 (tv : List (ByteArray × Vr)) (ta : List (ByteArray × Bool)) (deep : Nat) (e : Ex) : e.chk tv ta deep = thenE (mustE (decide ((deep : Int) ≤ 64)) 12) (thenE (kindX e) (thenE (nameX tv ta e) (exsChk tv ta (deep + 1) e.args))) := by
  rw [Ex.chk_eq, kindX, thenE_assoc]; rfl
theorem kindX_if (e : Ex) : kindX e = if 0 ≤ argsN e.op ∧ (e.args.length : Int) = argsN e.op ∧ (e.op = 1 ∨ e.word = 0) then 0 else 9 := by
  unfold kindX mustE
  simp only [Bool.and_eq_true, Bool.or_eq_true, decide_eq_true_eq, beq_iff_eq]
  by_cases h1 : 0 ≤ argsN e.op ∧ (e.args.length : Int) = argsN e.op
  · rw [if_pos h1, thenE_zero]
    by_cases h2 : e.op = 1 ∨ e.word = 0
    · rw [if_pos h2, if_pos ⟨h1.1, h1.2, h2⟩]
    · rw [if_neg h2, if_neg (fun h => h2 h.2.2)]
  · rw [if_neg h1, thenE_ne (by decide), if_neg (fun h => h1 ⟨h.1, h.2.1⟩)]
theorem kindX_0 {e : Ex} (h : 0 ≤ argsN e.op ∧ (e.args.length : Int) = argsN e.op ∧ (e.op = 1 ∨ e.word = 0)) : kindX e = 0 := by rw [kindX_if, if_pos h]
theorem kindX_9 {e : Ex} (h : ¬(0 ≤ argsN e.op ∧ (e.args.length : Int) = argsN e.op ∧ (e.op = 1 ∨ e.word = 0))) : kindX e = 9 := by rw [kindX_if, if_neg h]
theorem rexpr_ok (p : Pg) (k : Nat) (hp : p.Ok) (hk : k < p.funcs.length) (tv : List (ByteArray × Vr)) (ta : List (ByteArray × Bool)) (hN : NamesAt p k hk tv ta) (m : Nat) : ∀ (e : Ex) (deep : Nat), e.count ≤ m → e.count ≤ 2^40 → deep ≤ 65 → ∀ (H : List Blk),
    ACalls Tryz.prog 24 [.agg p.cells, I k, .agg e.cells, I deep] H (fun x H' => x = .ret (I (e.chk tv ta deep)) ∧ H' = H) := by
  induction m with
  | zero => intro e deep h; have := Ex.count_eq e; omega
  | succ m ih =>
    intro e deep hm hc hd H
    refine acalls_tidy (acalls_of_awp Tryz.func24 rfl (by kernel_rfl) ?_)
    have hce := Ex.count_eq e
    have hla := exs_len e.args
    obtain ⟨M, hM⟩ : ∃ M, M = H ++ [.box 25 p.cells, .box 53 e.cells] := ⟨_, rfl⟩
    have hMp : M[H.length]? = some (.box 25 p.cells) := by rw [hM]; simp
    have hMe : M[H.length + 1]? = some (.box 53 e.cells) := by rw [hM]; simp
    obtain ⟨E, hE⟩ : ∃ E, E = e.chk tv ta deep := ⟨_, rfl⟩
    have fin : ∀ c, c = E → Tidy H (fun x H' => x = .ret (I E) ∧ H' = H) (.ret (I c)) M := fun c hc => by rw [hM, hc]; exact tidy_same rfl ⟨rfl, rfl⟩
    rw [← hE]
    rw [Ex.chk_eq2] at hE
    replace hE := hE.symm
    have cw := fun H => rword_ok p k e.name hp hk H
    have car := fun H => rarray_ok p k e.name hp hk H
    have ca := fun H => rargs_ok e.op H
    rw [← hN.word] at cw
    rw [← hN.array] at car
    simp only [Pg.cells, Ex.cells_eq] at hM hMp hMe cw car
    refine awp_cut (fun _ => false) (fun _ => none) (fun f H' => M = H' ∧ f 4 = .bp H.length 0 ∧ f 6 = .bp (H.length + 1) 0 ∧ f 1 = I k ∧ f 3 = I deep) (by kernel_rfl) ?_ ?_
    · simp -dsimp [hM]
    clear hM
    rintro g _ ⟨rfl, g4, g6, g1, g3⟩
    refine awp_cut (fun _ => false) (fun _ => none) (fun f H' => M = H' ∧ f 4 = .bp H.length 0 ∧ f 6 = .bp (H.length + 1) 0 ∧ f 1 = I k ∧ f 3 = I deep ∧ deep ≤ 64) (by kernel_rfl) ?_ ?_
    · simp -dsimp [g1, g3, g4, g6]
      refine condVW_introD (fun h => ?_) (fun h => ?_)
      · simp -dsimp
        rw [decide_eq_false (by omega), mustE_false, thenE_ne (by decide)] at hE
        exact fin _ hE
      · simp -dsimp [g1, g3, g4, g6]
        omega
    clear g g1 g3 g4 g6
    rintro g _ ⟨rfl, g4, g6, g1, g3, hd64⟩
    rw [decide_eq_true (by omega), mustE_true, thenE_zero] at hE
    refine awp_cut (fun _ => false) (fun _ => none) (fun f H' => M = H' ∧ f 4 = .bp H.length 0 ∧ f 6 = .bp (H.length + 1) 0 ∧ f 1 = I k ∧ f 3 = I deep ∧ kindX e = 0) (by kernel_rfl) ?_ ?_
    · replace hE := Hid.mk hE
      replace fin := Hid.mk fin
      replace cw := Hid.mk cw
      replace car := Hid.mk car
      replace ih := Hid.mk ih
      replace hN := Hid.mk hN
      simp -dsimp [g1, g3, g4, g6, hMe]
      repeat' ((with_reducible first | refine And.intro ?_ ?_ | refine guardVW_introTD (fun _ => ?_) (fun _ => ?_) | refine guardVW_introFD (fun _ => ?_) (fun _ => ?_) | refine condVW_introD (fun _ => ?_) (fun _ => ?_) | refine guardVW_introTE (fun _ => ?_) (fun _ _ _ => ?_) | refine guardVW_introFE (fun _ => ?_) (fun _ _ _ => ?_) | refine condVW_introE (fun _ => ?_) (fun _ _ _ => ?_) | refine guardVW_introTNE (fun _ _ _ => ?_) (fun _ => ?_) | refine guardVW_introFNE (fun _ _ _ => ?_) (fun _ => ?_) | refine condVW_introNE (fun _ _ _ => ?_) (fun _ => ?_) | refine guardVW_introTB (fun _ => ?_) (fun _ => ?_) | refine guardVW_introFB (fun _ => ?_) (fun _ => ?_) | refine condVW_introB (fun _ => ?_) (fun _ => ?_) | refine guardVW_introT (fun _ => ?_) (fun _ => ?_) | refine guardVW_introF (fun _ => ?_) (fun _ => ?_) | refine condVW_intro (fun _ => ?_) (fun _ => ?_) | refine acallsW_det (ca _) ?_ | refine callDW_intro (ca _) ?_) <;> simp -dsimp [g1, g3, g4, g6, hMe, *])
      all_goals first
        | exact kindX_0 (by omega)
        | exact fin.out 9 (by have h := hE.out; rw [kindX_9 (by omega), thenE_ne (by decide)] at h; exact h)
    clear g g1 g3 g4 g6
    rintro g _ ⟨rfl, g4, g6, g1, g3, hkx⟩
    rw [hkx, thenE_zero] at hE
    clear hkx ca
    refine awp_cut (fun _ => false) (fun _ => none) (fun f H' => M = H' ∧ f 4 = .bp H.length 0 ∧ f 6 = .bp (H.length + 1) 0 ∧ f 1 = I k ∧ f 3 = I deep ∧ f 9 = I 0) (by kernel_rfl) ?_ ?_
    · simp -dsimp [g1, g3, g4, g6]
    clear g g1 g3 g4 g6
    rintro g _ ⟨rfl, g4, g6, g1, g3, g9⟩
    refine awp_cut (fun _ => false) (fun _ => none) (fun f H' => M = H' ∧ f 4 = .bp H.length 0 ∧ f 6 = .bp (H.length + 1) 0 ∧ f 1 = I k ∧ f 3 = I deep ∧ f 9 = I (nameX tv ta e)) (by kernel_rfl) ?_ ?_
    · replace hE := Hid.mk hE
      replace fin := Hid.mk fin
      replace ih := Hid.mk ih
      replace hN := Hid.mk hN
      simp -dsimp [g1, g3, g4, g6, g9, hMe, hMp]
      repeat' ((with_reducible first | refine And.intro ?_ ?_ | refine guardVW_introTD (fun _ => ?_) (fun _ => ?_) | refine guardVW_introFD (fun _ => ?_) (fun _ => ?_) | refine condVW_introD (fun _ => ?_) (fun _ => ?_) | refine guardVW_introTE (fun _ => ?_) (fun _ _ _ => ?_) | refine guardVW_introFE (fun _ => ?_) (fun _ _ _ => ?_) | refine condVW_introE (fun _ => ?_) (fun _ _ _ => ?_) | refine guardVW_introTNE (fun _ _ _ => ?_) (fun _ => ?_) | refine guardVW_introFNE (fun _ _ _ => ?_) (fun _ => ?_) | refine condVW_introNE (fun _ _ _ => ?_) (fun _ => ?_) | refine guardVW_introTB (fun _ => ?_) (fun _ => ?_) | refine guardVW_introFB (fun _ => ?_) (fun _ => ?_) | refine condVW_introB (fun _ => ?_) (fun _ => ?_) | refine guardVW_introT (fun _ => ?_) (fun _ => ?_) | refine guardVW_introF (fun _ => ?_) (fun _ => ?_) | refine condVW_intro (fun _ => ?_) (fun _ => ?_) | refine acallsW_det (cw _) ?_ | refine callDW_intro (cw _) ?_ | refine acallsW_det (car _) ?_ | refine callDW_intro (car _) ?_) <;> simp -dsimp [g1, g3, g4, g6, g9, hMe, hMp, *])
      all_goals first
        | (simp [nameX, mustE, *]; done)
        | trace_state
    clear g g1 g3 g4 g6 g9
    rintro g _ ⟨rfl, g4, g6, g1, g3, g9⟩
    obtain ⟨X, hX⟩ : ∃ X, X = nameX tv ta e := ⟨_, rfl⟩
    rw [← hX] at hE g9
    clear hX
    have w2 : IntKind.i64.wrap ((deep : Int) + 1) = (deep : Int) + 1 := wrapI (by omega) (by omega)
    refine awp_all (fun _ => false) (fun _ => none) (by kernel_rfl) ?_
    simp -dsimp [g1, g3, g4, g6, g9]
    refine loop_rule (hn := fun _ => false) (od := fun _ => none) (fun (i : Nat) f H' => M = H' ∧ f 4 = .bp H.length 0 ∧ f 6 = .bp (H.length + 1) 0 ∧ f 1 = I k ∧ f 3 = I deep ∧ f 10 = I i ∧ i ≤ e.args.length ∧ ∃ x, f 9 = I x ∧ thenE x (exsChk tv ta (deep + 1) (e.args.drop i)) = E) (fun i => e.args.length - i) (by kernel_rfl) 0 (by simp [g1, g3, g4, g6, g9]; exact hE) ?_
    clear g g1 g3 g4 g6 g9 hE
    rintro i g _ ⟨rfl, g4, g6, g1, g3, g10, hi, x, g9, hinv⟩
    simp -dsimp [g1, g3, g4, g6, g9, g10, hMe]
    refine guardVW_introTD (fun hlt => ?_) (fun hlt => ?_)
    · simp -dsimp [g1, g3, g4, g6, g9, g10, hMe, hlt]
      refine condVW_introE (fun hx => ?_) (fun hx _ _ => ?_)
      · subst hx
        rw [thenE_zero, drop_cons hlt, exsChk] at hinv
        have hg := exs_get hlt
        have cr := fun H => ih e.args[i] (deep + 1) (by omega) (by omega) (by omega) H
        simp only [Pg.cells, Ex.cells_eq] at cr
        rw [show ((deep + 1 : Nat) : Int) = (deep : Int) + 1 from rfl] at cr
        simp -dsimp [g1, g3, g4, g6, g9, g10, hMe, hMp, w2, List.getElem?_eq_getElem, hlt]
        refine callDW_intro (cr _) ?_
        simp -dsimp [g1, g3, g4, g6, g9, g10, hMe, hMp, w2]
        exact ⟨i + 1, by omega, wrapS (by omega), by omega, hinv⟩
      · rw [thenE_ne hx] at hinv
        simp -dsimp [g1, g3, g4, g6, g9, g10]
        exact fin _ hinv
    · simp -dsimp [g1, g3, g4, g6, g9, g10, hMe, hlt]
      rw [drop_end hlt, exsChk] at hinv
      refine fin _ ?_
      rw [← hinv]
      unfold thenE
      split
      · assumption
      · rfl
end Go.Proofs
namespace Go.Proofs
open Go.Mu
def kindB (s : Sm) : Bool := kd1 s && kd2 s && kd3 s && kd4 s && kd5 s && kd6 s && kd7 s && kd8 s
theorem kindE_B (s : Sm) : kindE s = mustE (kindB s) 9 := rfl
theorem kd5_if (s : Sm) : kd5 s = (decide (¬(0 < (s.args.length : Int) + s.names.length)) || hasK s.kind [6]) := by
  unfold kd5
  congr 1
  rw [Bool.eq_iff_iff]
  simp only [Bool.and_eq_true, beq_iff_eq, decide_eq_true_eq]
  omega
theorem shape_ok (s : Sm) (hs : s.count ≤ 2^40) (H : List Blk) : ACalls Tryz.prog 167 [.agg s.cells] H (fun e H' => e = .ret (Bo (kindB s)) ∧ H' = H) := by
  refine acalls_tidy (acalls_of_awp Tryz.func167 rfl (by kernel_rfl) ?_)
  obtain ⟨M, hM⟩ : ∃ M, M = H ++ [.box 57 s.cells] := ⟨_, rfl⟩
  have hMk : M[H.length]? = some (.box 57 s.cells) := by rw [hM]; simp
  have d1 := fun H => nothing_ok s.e H
  have d2 := fun H => nothing_ok s.a H
  have hsc := Sm.count_eq s
  have hla := exs_len s.args
  have w : IntKind.i64.wrap ((s.args.length : Int) + s.names.length) = (s.args.length : Int) + s.names.length := wrapI (by omega) (by omega)
  have fin : ∀ b, b = kindB s → Tidy H (fun e H' => e = .ret (Bo (kindB s)) ∧ H' = H) (.ret (Bo b)) M := fun b hb => by rw [hM, hb]; exact tidy_same rfl ⟨rfl, rfl⟩
  simp only [Sm.cells_eq, Ex.cells_eq] at hM hMk d1 d2
  refine awp_cut (fun _ => false) (fun _ => none) (fun f H' => M = H' ∧ f 1 = .bp H.length 0) (by kernel_rfl) ?_ ?_
  · simp -dsimp [hM]
  clear hM
  rintro g _ ⟨rfl, g1⟩
  refine awp_cut (fun _ => false) (fun _ => none) (fun f H' => M = H' ∧ f 1 = .bp H.length 0 ∧ f 3 = I s.kind) (by kernel_rfl) ?_ ?_
  · simp -dsimp [g1, hMk]
  clear g g1
  rintro g _ ⟨rfl, g1, g3⟩
  refine awp_cut (fun _ => false) (fun _ => none) (fun f H' => M = H' ∧ f 1 = .bp H.length 0 ∧ f 3 = I s.kind ∧ 1 ≤ s.kind ∧ s.kind ≤ 6) (by kernel_rfl) ?_ ?_
  · replace fin := Hid.mk fin
    replace hsc := Hid.mk hsc
    simp -dsimp [g1, g3]
    repeat' ((with_reducible first | refine And.intro ?_ ?_ | refine guardVW_introTD (fun _ => ?_) (fun _ => ?_) | refine guardVW_introFD (fun _ => ?_) (fun _ => ?_) | refine condVW_introD (fun _ => ?_) (fun _ => ?_) | refine guardVW_introTE (fun _ => ?_) (fun _ _ _ => ?_) | refine guardVW_introFE (fun _ => ?_) (fun _ _ _ => ?_) | refine condVW_introE (fun _ => ?_) (fun _ _ _ => ?_) | refine guardVW_introTNE (fun _ _ _ => ?_) (fun _ => ?_) | refine guardVW_introFNE (fun _ _ _ => ?_) (fun _ => ?_) | refine condVW_introNE (fun _ _ _ => ?_) (fun _ => ?_) | refine guardVW_introTB (fun _ => ?_) (fun _ => ?_) | refine guardVW_introFB (fun _ => ?_) (fun _ => ?_) | refine condVW_introB (fun _ => ?_) (fun _ => ?_) | refine guardVW_introT (fun _ => ?_) (fun _ => ?_) | refine guardVW_introF (fun _ => ?_) (fun _ => ?_) | refine condVW_intro (fun _ => ?_) (fun _ => ?_)) <;> simp -dsimp [g1, g3, *])
    all_goals first
      | omega
      | exact fin.out _ (by simp only [kindB, kd1]; rw [decide_eq_false (show ¬(1 ≤ s.kind) by omega)]; rfl)
      | exact fin.out _ (by simp only [kindB, kd1]; rw [decide_eq_false (show ¬(s.kind ≤ 6) by omega)]; simp)
      | (refine ⟨?_, ?_⟩ <;> omega)
      | trace_state
  clear g g1 g3
  rintro g _ ⟨rfl, g1, g3, k1, k2⟩
  have hk : s.kind = 1 ∨ s.kind = 2 ∨ s.kind = 3 ∨ s.kind = 4 ∨ s.kind = 5 ∨ s.kind = 6 := by omega
  clear k1 k2 hla
  replace hsc := Hid.mk hsc
  replace hs := Hid.mk hs
  replace fin := Hid.mk fin
  rcases hk with hk | hk | hk | hk | hk | hk
  all_goals rw [hk] at g3
  all_goals replace hk := Hid.mk hk
  all_goals refine awp_all (fun _ => false) (fun _ => none) (by kernel_rfl) ?_
  all_goals simp -dsimp [g1, g3, hMk, w]
  all_goals repeat' ((with_reducible first | refine And.intro ?_ ?_ | refine guardVW_introTD (fun _ => ?_) (fun _ => ?_) | refine guardVW_introFD (fun _ => ?_) (fun _ => ?_) | refine condVW_introD (fun _ => ?_) (fun _ => ?_) | refine guardVW_introTE (fun _ => ?_) (fun _ _ _ => ?_) | refine guardVW_introFE (fun _ => ?_) (fun _ _ _ => ?_) | refine condVW_introE (fun _ => ?_) (fun _ _ _ => ?_) | refine guardVW_introTNE (fun _ _ _ => ?_) (fun _ => ?_) | refine guardVW_introFNE (fun _ _ _ => ?_) (fun _ => ?_) | refine condVW_introNE (fun _ _ _ => ?_) (fun _ => ?_) | refine guardVW_introTB (fun _ => ?_) (fun _ => ?_) | refine guardVW_introFB (fun _ => ?_) (fun _ => ?_) | refine condVW_introB (fun _ => ?_) (fun _ => ?_) | refine guardVW_introT (fun _ => ?_) (fun _ => ?_) | refine guardVW_introF (fun _ => ?_) (fun _ => ?_) | refine condVW_intro (fun _ => ?_) (fun _ => ?_) | refine acallsW_det (d1 _) ?_ | refine callDW_intro (d1 _) ?_ | refine acallsW_det (d2 _) ?_ | refine callDW_intro (d2 _) ?_) <;> simp -dsimp [g1, g3, hMk, w, *])
  all_goals refine fin.out _ ?_
  all_goals replace hk := hk.out
  all_goals clear hMk d1 d2 fin hs hsc w g1 g3
  all_goals first
    | (simp only [kindB, kd5_if]; simp [kd1, kd2, kd3, kd4, kd6, kd7, kd8, hasK, *]; done)
    | (simp only [kindB, kd5_if]; simp only [kd1, kd2, kd3, kd4, kd6, kd7, kd8, hasK, hk]; simp [*]; done)
    | trace_state
end Go.Proofs
namespace Go.Proofs
open Go.Mu
theorem strs_frz (l : List ByteArray) : (l.map fun s => [St s]).flatten.all AV.frzB = true := by
  rw [flat_ones, List.all_eq_true]
  intro c hc
  obtain ⟨b, _, rfl⟩ := List.mem_map.1 hc
  rfl
theorem rcounts_ok (m : Nat) : ∀ (l : List Sm) (deep : Nat), smsCount l < m → smsCount l ≤ 2^36 → deep ≤ 65 → ∀ (H : List Blk),
    ACalls Tryz.prog 95 [Sm.sl l, I deep] H (fun e H' => e = .ret (St.sl (smsWords deep l)) ∧ H' = H) := by
  induction m with
  | zero => intro l deep hm; omega
  | succ m ih =>
    intro l deep hm hb hd H
    refine acalls_under fun hu _ => acalls_tidy (acalls_weakE (acalls_spare 1 (acalls_of_awp Tryz.func95 rfl (by kernel_rfl) ?_)))
    refine awp_cut (fun _ => false) (fun _ => none) (fun f H' => H' = H ++ [Blk.pend] ∧ f 0 = Sm.sl l ∧ f 1 = I deep) (by kernel_rfl) ?_ ?_
    · simp -dsimp
    rintro g _ ⟨rfl, g0, g1⟩
    have done : ∀ (ws : List ByteArray) L, ws = smsWords deep l → WeakE (Tidy H fun e H' => e = AE.ret (St.sl (smsWords deep l)) ∧ H' = H) (.ret (ownS H.length (ws.map fun s => [St s]))) (H ++ ownB 9 1 (ws.map fun s => [St s]) :: L) := fun ws L e => by
      subst e
      by_cases hw : smsWords deep l = []
      · rw [hw]
        refine tidy_weak (.nil 1) ?_
        exact tidy_same rfl ⟨rfl, rfl⟩
      · have hne : (smsWords deep l).map (fun s => [St s]) ≠ [] := by simpa using hw
        refine tidy_weak (.refl _) ?_
        rw [ownB, if_neg hne]
        refine tidy_give1 hu 1 _ _ (strs_frz _) ?_ ?_
        · rw [frz_own _ _ _ hne]; rfl
        · rw [frz_own _ _ _ hne]; exact ⟨rfl, rfl⟩
    refine awp_cut (fun _ => false) (fun _ => none) (fun f H' => H' = H ++ [Blk.pend] ∧ f 0 = Sm.sl l ∧ f 1 = I deep ∧ deep ≤ 64) (by kernel_rfl) ?_ ?_
    · simp -dsimp [g0, g1]
      refine condVW_introD (fun h => ?_) (fun h => ?_)
      · simp -dsimp
        have := done [] [] (smsWords_deep (by omega) l).symm
        simpa [ownS, ownB] using this
      · simp -dsimp [g0, g1]
        omega
    clear g g0 g1
    rintro g _ ⟨rfl, g0, g1, hd64⟩
    have hlen := sms_len l
    refine awp_cut (fun _ => false) (fun _ => none) (fun f H' => H' = H ++ [Blk.pend] ∧ f 0 = Sm.sl l ∧ f 1 = I deep ∧ f 5 = nilS) (by kernel_rfl) ?_ ?_
    · simp -dsimp [g0, g1]
    clear g g0 g1
    rintro g _ ⟨rfl, g0, g1, g5⟩
    refine awp_cut (fun d => d == 28 || d == 38 || d == 48) (fun id => none) (fun f H' => ∃ L, H' = H ++ ownB 9 1 ((smsWords deep l).map fun s => [St s]) :: L ∧ f 5 = ownS H.length ((smsWords deep l).map fun s => [St s])) (by kernel_rfl) ?_ ?_
    · simp -dsimp [g0, g1, g5]
      refine loop_rule (hn := fun d => d == 28 || d == 38 || d == 48) (od := fun id => none)
        (fun (i : Nat) g H' => (∃ ws L, H' = H ++ ownB 9 1 (ws.map fun s => [St s]) :: L ∧ g 5 = ownS H.length (ws.map fun s => [St s]) ∧ ws ++ smsWords deep (l.drop i) = smsWords deep l) ∧ g 1 = I deep ∧ g 0 = Sm.sl l ∧ g 6 = I i ∧ i ≤ l.length) (fun i => l.length - i) (by kernel_rfl) 0
        (by simp [g0, g1, g5]) ?_
      clear g g0 g1 g5
      rintro i g _ ⟨⟨ws, L, rfl, g5, hws⟩, g1, g0, g6, hi⟩
      simp -dsimp [g1, g5, g0, g6]
      refine condVW_introD (fun hlt => ?_) (fun hlt => ?_)
      · rw [drop_cons hlt, smsWords, if_neg (by omega), Sm.words_eq] at hws
        have hg := sms_get hlt
        have hsc := Sm.count_eq l[i]
        have hwl := smsWords_len _ l (Nat.le_refl _) deep
        have hwl2 := congrArg List.length hws
        simp only [List.length_append] at hwl2
        have w2 : IntKind.i64.wrap ((deep : Int) + 1) = (deep : Int) + 1 := wrapI (by omega) (by omega)
        simp -dsimp [g1, g5, g0, g6, List.getElem?_eq_getElem, hlt]
        have c1 := fun H => ih l[i].body (deep + 1) (by omega) (by omega) (by omega) H
        have c2 := fun H => ih l[i].els (deep + 1) (by omega) (by omega) (by omega) H
        simp only [St.sl, show ((deep + 1 : Nat) : Int) = (deep : Int) + 1 from rfl] at c1 c2
        have step : ∀ ws1 : List ByteArray, (ws1 ++ smsWords (deep + 1) l[i].body ++ smsWords (deep + 1) l[i].els) ++ smsWords deep (l.drop (i + 1)) = smsWords deep l → ws1.length ≤ 2^37 := fun ws1 h => by
          have := congrArg List.length h
          simp only [List.length_append] at this
          omega
        refine condVW_introE (fun hk => ?_) (fun hk _ _ => ?_)
        · rw [if_pos hk] at hws
          simp -dsimp [g1, g5, g0, g6, List.getElem?_eq_getElem, hlt]
          refine appendVW_own (es := ws.map fun s => [St s]) (by simp) (by simp; omega) (by simp; omega) ?_
          simp -dsimp [g1, g5, g0, g6, w2, List.getElem?_eq_getElem, hlt]
          obtain ⟨ws1, hw1⟩ : ∃ ws1, ws1 = ws ++ [l[i].name] := ⟨_, rfl⟩
          have hm1 : List.map (fun s => [St s]) ws ++ [[AV.v (Value.string l[i].name)]] = ws1.map fun s => [St s] := by rw [hw1]; simp
          have hl1 : ws1.length ≤ ws.length + 1 := by rw [hw1]; simp
          rw [hm1]
          refine acallsW_det (c1 _) ?_
          simp -dsimp [g1, g5, g0, g6, w2]
          refine appendVW_own (es := ws1.map fun s => [St s]) (by simp) (by simp; omega) (by simp; omega) ?_
          simp -dsimp [g1, g5, g0, g6, w2, List.getElem?_eq_getElem, hlt]
          refine acallsW_det (c2 _) ?_
          simp -dsimp [g1, g5, g0, g6, w2]
          refine appendVW_own (es := (ws1.map fun s => [St s]) ++ (smsWords (deep + 1) l[i].body).map fun s => [St s]) (by simp) (by simp; omega) (by simp; omega) ?_
          simp -dsimp [g1, g5, g0, g6, w2]
          exact ⟨i + 1, by omega, ⟨ws1 ++ smsWords (deep + 1) l[i].body ++ smsWords (deep + 1) l[i].els, by simp, by simp, by rw [← hws, hw1]; simp⟩, wrapS (by omega), by omega⟩
        · rw [if_neg hk] at hws
          simp -dsimp [g1, g5, g0, g6, w2, List.getElem?_eq_getElem, hlt]
          obtain ⟨ws1, hw1⟩ : ∃ ws1, ws1 = ws := ⟨_, rfl⟩
          have hl1 : ws1.length ≤ ws.length + 1 := by rw [hw1]; omega
          rw [← hw1]
          refine acallsW_det (c1 _) ?_
          simp -dsimp [g1, g5, g0, g6, w2, ← hw1]
          refine appendVW_own (es := ws1.map fun s => [St s]) (by simp) (by simp; omega) (by simp; omega) ?_
          simp -dsimp [g1, g5, g0, g6, w2, List.getElem?_eq_getElem, hlt]
          refine acallsW_det (c2 _) ?_
          simp -dsimp [g1, g5, g0, g6, w2]
          refine appendVW_own (es := (ws1.map fun s => [St s]) ++ (smsWords (deep + 1) l[i].body).map fun s => [St s]) (by simp) (by simp; omega) (by simp; omega) ?_
          simp -dsimp [g1, g5, g0, g6, w2]
          exact ⟨i + 1, by omega, ⟨ws1 ++ smsWords (deep + 1) l[i].body ++ smsWords (deep + 1) l[i].els, by simp, by simp, by rw [← hws, hw1]; simp⟩, wrapS (by omega), by omega⟩
      · rw [drop_end hlt, smsWords, List.append_nil] at hws
        subst hws
        simp -dsimp [g5]
    clear g g0 g1 g5
    rintro g _ ⟨L, rfl, g5⟩
    refine awp_all (fun _ => false) (fun _ => none) (by kernel_rfl) ?_
    simp -dsimp [g5]
    exact done _ _ rfl
end Go.Proofs
namespace Go.Proofs
open Go.Mu
theorem rcall_ok (p : Pg) (k : Nat) (hp : p.Ok) (hk : k < p.funcs.length) (tv : List (ByteArray × Vr)) (ta : List (ByteArray × Bool)) (hN : NamesAt p k hk tv ta) (all : List ByteArray) (hall : all.length ≤ 2^40) (s : Sm) (deep : Nat) (hs : s.count ≤ 2^40) (hd : deep ≤ 64) (H : List Blk) :
    ACalls Tryz.prog 169 [.agg p.cells, I k, .agg s.cells, I deep, St.sl all] H (fun x H' => x = .ret (I (callE p k tv ta all s deep)) ∧ H' = H) := by
  refine acalls_tidy (acalls_of_awp Tryz.func169 rfl (by kernel_rfl) ?_)
  have hsc := Sm.count_eq s
  have hla := exs_len s.args
  have hpf := hp.funcs
  obtain ⟨M, hM⟩ : ∃ M, M = H ++ [.box 25 p.cells, .box 57 s.cells] := ⟨_, rfl⟩
  have hMp : M[H.length]? = some (.box 25 p.cells) := by rw [hM]; simp
  have hMs : M[H.length + 1]? = some (.box 57 s.cells) := by rw [hM]; simp
  obtain ⟨E, hE⟩ : ∃ E, E = callE p k tv ta all s deep := ⟨_, rfl⟩
  have fin : ∀ c, c = E → Tidy H (fun x H' => x = .ret (I E) ∧ H' = H) (.ret (I c)) M := fun c hc => by rw [hM, hc]; exact tidy_same rfl ⟨rfl, rfl⟩
  rw [← hE]
  unfold callE at hE
  replace hE := hE.symm
  have ix := idxP_in (fun g => decide (g.name = s.name)) p.funcs 0
  obtain ⟨ii, hii⟩ : ∃ ii, ii = idxP (fun (g : Fc) => decide (g.name = s.name)) p.funcs 0 := ⟨_, rfl⟩
  simp only [← hii] at hE
  rw [show ((0 : Nat) : Int) = 0 from rfl, ← hii] at ix
  simp only [Pg.cells, Sm.cells_eq] at hM hMp hMs
  refine awp_cut (fun _ => false) (fun _ => none) (fun f H' => M = H' ∧ f 5 = .bp H.length 0 ∧ f 7 = .bp (H.length + 1) 0 ∧ f 1 = I k ∧ f 3 = I deep ∧ f 4 = St.sl all) (by kernel_rfl) ?_ ?_
  · simp -dsimp [hM]
  clear hM
  rintro g _ ⟨rfl, g5, g7, g1, g3, g4⟩
  refine awp_cut (fun _ => false) (fun _ => none) (fun f H' => M = H' ∧ f 5 = .bp H.length 0 ∧ f 7 = .bp (H.length + 1) 0 ∧ f 1 = I k ∧ f 3 = I deep ∧ f 4 = St.sl all ∧ f 11 = I (-1)) (by kernel_rfl) ?_ ?_
  · simp -dsimp [g1, g3, g4, g5, g7]
  clear g g1 g3 g4 g5 g7
  rintro g _ ⟨rfl, g5, g7, g1, g3, g4, g11⟩
  refine awp_cut (fun _ => false) (fun _ => none) (fun f H' => M = H' ∧ f 5 = .bp H.length 0 ∧ f 7 = .bp (H.length + 1) 0 ∧ f 1 = I k ∧ f 3 = I deep ∧ f 4 = St.sl all ∧ f 11 = I ii) (by kernel_rfl) ?_ ?_
  · simp -dsimp [g1, g3, g4, g5, g7, g11]
    refine loop_rule (hn := fun _ => false) (od := fun _ => none) (fun (i : Nat) f H' => M = H' ∧ f 5 = .bp H.length 0 ∧ f 7 = .bp (H.length + 1) 0 ∧ f 1 = I k ∧ f 3 = I deep ∧ f 4 = St.sl all ∧ f 12 = I i ∧ i ≤ p.funcs.length ∧
      ∃ a, f 11 = I a ∧ ((a = -1 ∧ idxP (fun (g : Fc) => decide (g.name = s.name)) (p.funcs.drop i) i = ii) ∨ (0 ≤ a ∧ a = ii))) (fun i => p.funcs.length - i) (by kernel_rfl) 0 (by simp [g1, g3, g4, g5, g7, g11, hii]) ?_
    clear g g1 g3 g4 g5 g7 g11
    rintro i g _ ⟨rfl, g5, g7, g1, g3, g4, g12, hi, a, g11, ha⟩
    simp -dsimp [g1, g3, g4, g5, g7, g11, g12, hMp]
    refine guardVW_introTD (fun hlt => ?_) (fun hlt => ?_)
    · simp -dsimp [g1, g3, g4, g5, g7, g11, g12, hMp, hlt]
      refine condVW_introD (fun hneg => ?_) (fun hneg => ?_)
      · obtain ⟨rfl, hinv⟩ : a = -1 ∧ idxP (fun (g : Fc) => decide (g.name = s.name)) (p.funcs.drop i) i = ii := by
          rcases ha with h | h
          · exact h
          · omega
        rw [drop_cons hlt, idxP] at hinv
        simp -dsimp [g1, g3, g4, g5, g7, g11, g12, hMp, hMs, List.getElem?_eq_getElem, hlt]
        refine condVW_introD (fun hp => ?_) (fun hp => ?_)
        · rw [if_pos (by simpa using hp)] at hinv
          simp -dsimp [g1, g3, g4, g5, g7, g11, g12]
          exact ⟨i + 1, by omega, wrapS (by omega), by omega, hinv⟩
        · rw [if_neg (by simpa using hp)] at hinv
          simp -dsimp [g1, g3, g4, g5, g7, g11, g12]
          exact ⟨i + 1, by omega, wrapS (by omega), by omega, by simpa using hinv⟩
      · obtain ⟨h0, rfl⟩ : 0 ≤ a ∧ a = ii := by
          rcases ha with h | h
          · omega
          · exact h
        simp -dsimp [g1, g3, g4, g5, g7, g11, g12]
    · simp -dsimp [g1, g3, g4, g5, g7, g11, g12, hlt]
      rcases ha with ⟨rfl, h⟩ | ⟨_, rfl⟩
      · rw [drop_end hlt, idxP] at h
        exact h
      · rfl
  clear g g1 g3 g4 g5 g7 g11 hii
  rintro g _ ⟨rfl, g5, g7, g1, g3, g4, g11⟩
  -- there is one
  refine awp_cut (fun _ => false) (fun _ => none) (fun f H' => M = H' ∧ f 5 = .bp H.length 0 ∧ f 7 = .bp (H.length + 1) 0 ∧ f 1 = I k ∧ f 3 = I deep ∧ f 4 = St.sl all ∧ f 11 = I ii ∧ 0 ≤ ii) (by kernel_rfl) ?_ ?_
  · simp -dsimp [g1, g3, g4, g5, g7, g11]
    refine condVW_introD (fun h => ?_) (fun h => ?_)
    · simp -dsimp
      refine fin _ ?_
      rw [← hE]
      split
      · rfl
      · rw [decide_eq_false (by omega), mustE_false, thenE_ne (by decide)]
    · simp -dsimp [g1, g3, g4, g5, g7, g11]
      omega
  clear g g1 g3 g4 g5 g7 g11
  rintro g _ ⟨rfl, g5, g7, g1, g3, g4, g11, h0⟩
  obtain ⟨j, hj, hji⟩ : ∃ j, j < p.funcs.length ∧ ii = (j : Int) := by
    rcases ix with h | ⟨j, hj, h⟩
    · omega
    · exact ⟨j, hj, by omega⟩
  subst hji
  rw [show ((j : Int)).toNat = j from rfl, List.getElem?_eq_getElem hj] at hE
  simp only [decide_eq_true h0, mustE_true, thenE_zero] at hE
  clear h0 ix
  -- it stands ahead
  refine awp_cut (fun _ => false) (fun _ => none) (fun f H' => M = H' ∧ f 5 = .bp H.length 0 ∧ f 7 = .bp (H.length + 1) 0 ∧ f 1 = I k ∧ f 3 = I deep ∧ f 4 = St.sl all ∧ f 11 = I j ∧ (j : Int) < k) (by kernel_rfl) ?_ ?_
  · simp -dsimp [g1, g3, g4, g5, g7, g11]
    refine condVW_introD (fun h => ?_) (fun h => ?_)
    · simp -dsimp
      rw [decide_eq_false (by omega), mustE_false, thenE_ne (by decide)] at hE
      exact fin _ hE
    · simp -dsimp [g1, g3, g4, g5, g7, g11]
      omega
  clear g g1 g3 g4 g5 g7 g11
  rintro g _ ⟨rfl, g5, g7, g1, g3, g4, g11, h1⟩
  rw [decide_eq_true h1, mustE_true, thenE_zero] at hE
  obtain ⟨F, hF⟩ : ∃ F, F = p.funcs[j] := ⟨_, rfl⟩
  rw [← hF] at hE
  -- names
  refine awp_cut (fun _ => false) (fun _ => none) (fun f H' => M = H' ∧ f 5 = .bp H.length 0 ∧ f 7 = .bp (H.length + 1) 0 ∧ f 1 = I k ∧ f 3 = I deep ∧ f 11 = I j ∧ takesE tv ta all [] s.names = 0) (by kernel_rfl) ?_ ?_
  · simp -dsimp [g1, g3, g4, g5, g7, g11]
    refine loop_rule (hn := fun _ => false) (od := fun _ => none) (fun (i : Nat) f H' => M = H' ∧ f 5 = .bp H.length 0 ∧ f 7 = .bp (H.length + 1) 0 ∧ f 1 = I k ∧ f 3 = I deep ∧ f 4 = St.sl all ∧ f 11 = I j ∧ f 13 = I i ∧ i ≤ s.names.length ∧ takesE tv ta all (s.names.take i) (s.names.drop i) = takesE tv ta all [] s.names) (fun i => s.names.length - i) (by kernel_rfl) 0 (by simp [g1, g3, g4, g5, g7, g11]) ?_
    clear g g1 g3 g4 g5 g7 g11
    rintro i g _ ⟨rfl, g5, g7, g1, g3, g4, g11, g13, hi, hinv⟩
    simp -dsimp [g1, g3, g4, g5, g7, g11, g13, hMs]
    refine condVW_introD (fun hlt => ?_) (fun hlt => ?_)
    · rw [drop_cons hlt, takesE] at hinv
      obtain ⟨nm, hnm⟩ : ∃ nm, nm = s.names[i] := ⟨_, rfl⟩
      rw [← hnm] at hinv
      have htk : (s.names.take i).length ≤ 2^40 := by simp; omega
      have cc := fun H => rhas_ok (s.names.take i) nm htk H
      simp only [St.sl, List.map_take] at cc
      have cal := fun H => rhas_ok all nm hall H
      have cw := fun H => rword_ok p k nm hp hk H
      rw [← hN.word] at cw
      simp only [Pg.cells] at cw
      obtain ⟨b1, hb1⟩ : ∃ b1, b1 = all.any fun x => decide (nm = x) := ⟨_, rfl⟩
      obtain ⟨b2, hb2⟩ : ∃ b2, b2 = (s.names.take i).any fun x => decide (nm = x) := ⟨_, rfl⟩
      rw [← hb1] at cal hinv
      rw [← hb2] at cc hinv
      have err : ∀ c, c ≠ 0 → takesE tv ta all [] s.names = c → c = E := fun c hc h => by rw [h, thenE_ne hc] at hE; exact hE
      simp -dsimp [g1, g3, g4, g5, g7, g11, g13, hMs, hMp, List.getElem?_eq_getElem, hlt, ← hnm]
      refine callDW_intro (cw _) ?_
      simp -dsimp [g1, g3, g4, g5, g7, g11, g13]
      refine condVW_introNE (fun hz _ _ => ?_) (fun hz => ?_)
      · rw [thenE_ne hz] at hinv
        simp -dsimp [g1, g3, g4, g5, g7, g11, g13]
        exact fin _ (err _ hz hinv.symm)
      rw [hz, thenE_zero] at hinv
      have hile : i ≤ s.names.length := hi
      simp -dsimp [g1, g3, g4, g5, g7, g11, g13, hMs, hMp, List.getElem?_eq_getElem, hlt, ← hnm]
      refine callDW_intro (cal _) ?_
      simp -dsimp
      clear hb1 hb2
      cases b1
      · simp only [Bool.not_false, mustE_true, thenE_zero] at hinv
        simp -dsimp [g1, g3, g4, g5, g7, g11, g13, hMs, hMp, List.getElem?_eq_getElem, hlt, ← hnm, hile]
        refine callDW_intro (cc _) ?_
        simp -dsimp
        cases b2
        · simp only [Bool.not_false, mustE_true, thenE_zero] at hinv
          simp -dsimp [g1, g3, g4, g5, g7, g11, g13]
          exact ⟨i + 1, by omega, wrapS (by omega), by omega, by rw [take_succ' hlt, ← hnm]; exact hinv⟩
        · simp only [Bool.not_true, mustE_false] at hinv
          rw [thenE_ne (by decide)] at hinv
          simp -dsimp
          exact fin _ (err _ (by decide) hinv.symm)
      · simp only [Bool.not_true, mustE_false] at hinv
        rw [thenE_ne (by decide)] at hinv
        simp -dsimp
        exact fin _ (err _ (by decide) hinv.symm)
    · rw [drop_end hlt, takesE] at hinv
      simp -dsimp [g1, g3, g5, g7, g11]
      exact hinv.symm
  clear g g1 g3 g4 g5 g7 g11
  rintro g _ ⟨rfl, g5, g7, g1, g3, g11, ht⟩
  rw [ht, thenE_zero] at hE
  refine awp_cut (fun _ => false) (fun _ => none) (fun f H' => M = H' ∧ f 5 = .bp H.length 0 ∧ f 7 = .bp (H.length + 1) 0 ∧ f 1 = I k ∧ f 3 = I deep ∧ mustE ((s.args.length : Int) == F.params.length && (s.names.length : Int) == F.rets.length) 2 = 0) (by kernel_rfl) ?_ ?_
  · replace hE := Hid.mk hE
    replace fin := Hid.mk fin
    replace hN := Hid.mk hN
    simp -dsimp [g1, g3, g5, g7, g11, hMs, hMp, List.getElem?_eq_getElem, hj, ← hF]
    replace hF := Hid.mk hF
    repeat' ((with_reducible first | refine And.intro ?_ ?_ | refine guardVW_introTD (fun _ => ?_) (fun _ => ?_) | refine guardVW_introFD (fun _ => ?_) (fun _ => ?_) | refine condVW_introD (fun _ => ?_) (fun _ => ?_) | refine guardVW_introTE (fun _ => ?_) (fun _ _ _ => ?_) | refine guardVW_introFE (fun _ => ?_) (fun _ _ _ => ?_) | refine condVW_introE (fun _ => ?_) (fun _ _ _ => ?_) | refine guardVW_introTNE (fun _ _ _ => ?_) (fun _ => ?_) | refine guardVW_introFNE (fun _ _ _ => ?_) (fun _ => ?_) | refine condVW_introNE (fun _ _ _ => ?_) (fun _ => ?_) | refine guardVW_introTB (fun _ => ?_) (fun _ => ?_) | refine guardVW_introFB (fun _ => ?_) (fun _ => ?_) | refine condVW_introB (fun _ => ?_) (fun _ => ?_) | refine guardVW_introT (fun _ => ?_) (fun _ => ?_) | refine guardVW_introF (fun _ => ?_) (fun _ => ?_) | refine condVW_intro (fun _ => ?_) (fun _ => ?_)) <;> simp -dsimp [g1, g3, g5, g7, g11, hMs, hMp, List.getElem?_eq_getElem, hj, ← hF.out, *])
    all_goals first
      | (simp [mustE, *]; done)
      | exact fin.out 2 (by have h := hE.out; rw [thenE_ne] at h <;> simp [mustE, *] at h ⊢; omega)
      | trace_state
  clear g g1 g3 g5 g7 g11
  rintro g _ ⟨rfl, g5, g7, g1, g3, hm⟩
  rw [hm, thenE_zero] at hE
  refine awp_all (fun _ => false) (fun _ => none) (by kernel_rfl) ?_
  simp -dsimp [g1, g3, g5, g7]
  refine loop_rule (hn := fun _ => false) (od := fun _ => none) (fun (i : Nat) f H' => M = H' ∧ f 5 = .bp H.length 0 ∧ f 7 = .bp (H.length + 1) 0 ∧ f 1 = I k ∧ f 3 = I deep ∧ f 15 = I i ∧ i ≤ s.args.length ∧ exsChk tv ta deep (s.args.drop i) = E) (fun i => s.args.length - i) (by kernel_rfl) 0 (by simp [g1, g3, g5, g7]; exact hE) ?_
  clear g g1 g3 g5 g7
  rintro i g _ ⟨rfl, g5, g7, g1, g3, g15, hi, hinv⟩
  simp -dsimp [g1, g3, g5, g7, g15, hMs]
  refine condVW_introD (fun hlt => ?_) (fun hlt => ?_)
  · rw [drop_cons hlt, exsChk] at hinv
    have hb3 := exs_get hlt
    have ce := fun H => rexpr_ok p k hp hk tv ta hN _ s.args[i] deep (Nat.le_refl _) (by omega) (by omega) H
    simp only [Pg.cells, Ex.cells_eq] at ce
    simp -dsimp [g1, g3, g5, g7, g15, hMs, hMp, List.getElem?_eq_getElem, hlt]
    refine callDW_intro (ce _) ?_
    simp -dsimp [g1, g3, g5, g7, g15]
    refine condVW_introNE (fun hz _ _ => ?_) (fun hz => ?_)
    · rw [thenE_ne hz] at hinv
      simp -dsimp [g1, g3, g5, g7, g15]
      exact fin _ hinv
    · rw [hz, thenE_zero] at hinv
      simp -dsimp [g1, g3, g5, g7, g15]
      exact ⟨i + 1, by omega, wrapS (by omega), by omega, hinv⟩
  · simp -dsimp
    rw [drop_end hlt, exsChk] at hinv
    exact fin _ hinv
end Go.Proofs
namespace Go.Proofs
open Go.Mu
def InnerC (p : Pg) (k : Nat) (F : Fc) (tv : List (ByteArray × Vr)) (ta : List (ByteArray × Bool)) (all : List ByteArray) (m : Nat) : Prop :=
  ∀ (l : List Sm) (deep : Nat) (around : List ByteArray), smsCount l < m → smsCount l ≤ 2^40 → deep ≤ 65 → around.length + smsCount l ≤ 2^38 → ∀ (H : List Blk),
    ACalls Tryz.prog 94 [.agg p.cells, I k, Sm.sl l, I deep, St.sl around, St.sl all] H (fun x H' => x = .ret (I (smsChk p k F tv ta all deep around l)) ∧ H' = H)
theorem inner_own {p : Pg} {k : Nat} {l : List Sm} {d c : Int} {around all : List ByteArray} {H : List Blk} (r : Nat) (hr : H[r]? = some (ownB 9 1 (around.map fun s => [St s]))) (h : ACalls Tryz.prog 94 [.agg p.cells, I k, Sm.sl l, I d, St.sl around, St.sl all] [] (fun x H' => x = .ret (I c) ∧ H' = [])) :
    ACalls Tryz.prog 94 [.agg p.cells, I k, Sm.sl l, I d, ownS r (around.map fun s => [St s]), St.sl all] H (fun x H' => x = .ret (I c) ∧ H' = H) := by
  by_cases ha : around = []
  · subst ha
    refine acalls_apart (args' := [.agg p.cells, I k, Sm.sl l, I d, nilS, St.sl all]) (.refl _ _) rfl ?_
    exact acalls_weak (.cons (.refl _) (.cons (.refl _) (.cons (.refl _) (.cons (.refl _) (.cons (.nil _) (.cons (.refl _) .nil)))))) h
  · have hne : around.map (fun s => [St s]) ≠ [] := by simpa using ha
    rw [ownB, if_neg hne] at hr
    refine acalls_apart (args' := [.agg p.cells, I k, Sm.sl l, I d, St.sl around, St.sl all]) ?_ rfl h
    refine .row r 1 9 _ hr (strs_frz _) ?_
    have e : frzL r 1 (around.map fun s => [St s]) [.agg p.cells, I k, Sm.sl l, I d, ownS r (around.map fun s => [St s]), St.sl all] = [.agg p.cells, I k, Sm.sl l, I d, St.sl around, St.sl all] := by
      simp only [frzL, AV.frz, Pg.cells, frz_own _ _ _ hne]
    rw [e]
    exact .refl _ _
theorem put_none {s : Sm} (h : kindE s = 0) (hk : s.kind = 2) : s.body = [] ∧ s.els = [] := by
  unfold kindE mustE at h
  split at h
  · rename_i h1
    simp only [Bool.and_eq_true] at h1
    obtain ⟨⟨_, h7⟩, h8⟩ := h1
    simp only [kd7, kd8, hk] at h7 h8
    constructor
    · simpa [hasK] using h7
    · simpa [hasK] using h8
  · cases h
theorem rstmt_ok (p : Pg) (k : Nat) (hp : p.Ok) (hk : k < p.funcs.length) (F : Fc) (hF : F = p.funcs[k]) (tv : List (ByteArray × Vr)) (ta : List (ByteArray × Bool)) (hN : NamesAt p k hk tv ta) (all : List ByteArray) (hall : all.length ≤ 2^40) (m : Nat) (ih : InnerC p k F tv ta all m)
    (s : Sm) (deep : Nat) (around : List ByteArray) (hm : s.count ≤ m) (hs : s.count ≤ 2^40) (hd : deep ≤ 65) (har : around.length + s.count ≤ 2^38) (H : List Blk) :
    ACalls Tryz.prog 132 [.agg p.cells, I k, .agg s.cells, I deep, St.sl around, St.sl all] H (fun x H' => x = .ret (I (s.chk p k F tv ta all deep around)) ∧ H' = H) := by
  refine acalls_tidy (acalls_spare 1 (acalls_of_awp Tryz.func132 rfl (by kernel_rfl) ?_))
  have hsc := Sm.count_eq s
  have hce := Ex.count_eq s.e
  have hca := Ex.count_eq s.a
  have hpf := hp.funcs
  have hpp := hp.params _ (List.getElem_mem hk)
  have hprt := hp.rets _ (List.getElem_mem hk)
  rw [← hF] at hpp hprt
  obtain ⟨M, hM⟩ : ∃ M : Blk → List Blk, M = fun b => H ++ [b, .box 25 p.cells, .box 57 s.cells] := ⟨_, rfl⟩
  have hMr : ∀ b, (M b)[H.length]? = some b := fun b => by rw [hM]; simp
  have hMp : ∀ b, (M b)[H.length + 1]? = some (.box 25 p.cells) := fun b => by rw [hM]; simp
  have hMs : ∀ b, (M b)[H.length + 2]? = some (.box 57 s.cells) := fun b => by rw [hM]; simp
  have hMset : ∀ b b', (M b).set H.length b' = M b' := fun b b' => by rw [hM]; simp
  obtain ⟨E, hE⟩ : ∃ E, E = s.chk p k F tv ta all deep around := ⟨_, rfl⟩
  have fin : ∀ c b, c = E → Tidy H (fun x H' => x = .ret (I E) ∧ H' = H) (.ret (I c)) (M b) := fun c b hc => by rw [hM, hc]; exact tidy_same rfl ⟨rfl, rfl⟩
  rw [← hE]
  rw [Sm.chk_eq] at hE
  replace hE := hE.symm
  have csh := fun H => shape_ok s hs H
  simp only [Pg.cells, Sm.cells_eq] at hM hMp hMs csh
  refine awp_cut (fun _ => false) (fun _ => none) (fun f H' => M .pend = H' ∧ f 6 = .bp (H.length + 1) 0 ∧ f 8 = .bp (H.length + 2) 0 ∧ f 1 = I k ∧ f 3 = I deep ∧ f 4 = St.sl around ∧ f 5 = St.sl all) (by kernel_rfl) ?_ ?_
  · simp -dsimp [hM]
  clear hM
  rintro g _ ⟨rfl, g6, g8, g1, g3, g4, g5⟩
  -- not too deep
  refine awp_cut (fun _ => false) (fun _ => none) (fun f H' => M .pend = H' ∧ f 6 = .bp (H.length + 1) 0 ∧ f 8 = .bp (H.length + 2) 0 ∧ f 1 = I k ∧ f 3 = I deep ∧ f 4 = St.sl around ∧ f 5 = St.sl all ∧ deep ≤ 64) (by kernel_rfl) ?_ ?_
  · simp -dsimp [g1, g3, g4, g5, g6, g8]
    refine condVW_introD (fun h => ?_) (fun h => ?_)
    · simp -dsimp
      rw [decide_eq_false (by omega), mustE_false, thenE_ne (by decide)] at hE
      exact fin _ _ hE
    · simp -dsimp [g1, g3, g4, g5, g6, g8]
      omega
  clear g g1 g3 g4 g5 g6 g8
  rintro g _ ⟨rfl, g6, g8, g1, g3, g4, g5, hd64⟩
  rw [decide_eq_true (by omega), mustE_true, thenE_zero] at hE
  -- its shape
  refine awp_cut (fun _ => false) (fun _ => none) (fun f H' => M .pend = H' ∧ f 6 = .bp (H.length + 1) 0 ∧ f 8 = .bp (H.length + 2) 0 ∧ f 1 = I k ∧ f 3 = I deep ∧ f 4 = St.sl around ∧ f 5 = St.sl all ∧ kindE s = 0) (by kernel_rfl) ?_ ?_
  · simp -dsimp [g1, g3, g4, g5, g6, g8, hMs]
    refine acallsW_det (csh _) ?_
    rw [kindE_B] at hE ⊢
    simp -dsimp
    cases hb : kindB s
    · rw [hb, mustE_false, thenE_ne (by decide)] at hE
      simp -dsimp
      exact fin _ _ hE
    · simp -dsimp [g1, g3, g4, g5, g6, g8]
  clear g g1 g3 g4 g5 g6 g8
  rintro g _ ⟨rfl, g6, g8, g1, g3, g4, g5, hkd⟩
  rw [hkd, thenE_zero] at hE
  refine awp_cut (fun _ => false) (fun _ => none) (fun f H' => M .pend = H' ∧ f 6 = .bp (H.length + 1) 0 ∧ f 8 = .bp (H.length + 2) 0 ∧ f 1 = I k ∧ f 3 = I deep ∧ f 4 = St.sl around ∧ f 5 = St.sl all ∧ f 13 = I 0) (by kernel_rfl) ?_ ?_
  · simp -dsimp [g1, g3, g4, g5, g6, g8]
  clear g g1 g3 g4 g5 g6 g8 csh
  rintro g _ ⟨rfl, g6, g8, g1, g3, g4, g5, g13⟩
  have w2 : IntKind.i64.wrap ((deep : Int) + 1) = (deep : Int) + 1 := wrapI (by omega) (by omega)
  have cw := fun H => rword_ok p k s.name hp hk H
  rw [← hN.word] at cw
  have car := fun H => rarray_ok p k s.name hp hk H
  rw [← hN.array] at car
  have ce := fun H => rexpr_ok p k hp hk tv ta hN _ s.e deep (Nat.le_refl _) (by omega) (by omega) H
  have ca := fun H => rexpr_ok p k hp hk tv ta hN _ s.a deep (Nat.le_refl _) (by omega) (by omega) H
  have cb := fun H => ih s.body (deep + 1) around (by omega) (by omega) (by omega) (by omega) H
  have cel := fun H => ih s.els (deep + 1) around (by omega) (by omega) (by omega) (by omega) H
  have cal := fun H => rhas_ok all s.name hall H
  simp only [Pg.cells, Ex.cells_eq, show ((deep + 1 : Nat) : Int) = (deep : Int) + 1 from rfl] at cw car ce ca cb cel
  rcases kind_in hkd with hk1 | hk1 | hk1 | hk1 | hk1 | hk1
  · rw [if_pos hk1] at hE
    refine awp_all (fun d => d == 155 || d == 159) (fun i => if i = 31 then some [(0, []), (1, []), (2, []), (3, []), (4, []), (5, []), (6, []), (8, []), (9, []), (10, []), (12, []), (7, [0, 2, 3, 5, 8, 9, 10]), (11, [0, 2, 3, 5]), (13, []), (14, [])] else none) (by kernel_rfl) ?_
    have hMs := hMs
    rw [hk1] at hMs
    simp -dsimp [g1, g3, g4, g5, g6, g8, g13, hMs, hMp, w2]
    refine acallsW_det (cw _) ?_
    simp -dsimp [g1, g3, g4, g5, g6, g8, g13, hMs, hMp, w2]
    refine guardVW_introTE (fun hz => ?_) (fun hz hzb _ => ?_)
    rotate_left
    · rw [thenE_ne hz] at hE
      simp -dsimp [g1, g3, g4, g5, g6, g8, g13, hMs, hMp, w2, hzb]
      exact fin _ _ hE
    rw [hz, thenE_zero] at hE
    simp -dsimp [g1, g3, g4, g5, g6, g8, g13, hMs, hMp, w2, hz]
    obtain ⟨b, hb⟩ : ∃ b, b = all.any fun x => decide (s.name = x) := ⟨_, rfl⟩
    rw [← hb] at cal hE
    refine acallsW_det (cal _) ?_
    simp -dsimp
    cases b
    · simp only [Bool.not_false, mustE_true, thenE_zero] at hE
      simp -dsimp [g1, g3, g4, g5, g6, g8, g13, hMs, hMp, w2, hz]
      refine acallsW_det (ce _) ?_
      simp -dsimp [g1, g3, g4, g5, g6, g8, g13, hMs, hMp, w2]
      exact fin _ _ hE
    · simp only [Bool.not_true, mustE_false] at hE
      rw [thenE_ne (by decide)] at hE
      simp -dsimp [g1, g3, g4, g5, g6, g8, g13, hMs, hMp, w2, hz]
      exact fin _ _ hE
  · rw [if_neg (by omega), if_pos hk1] at hE
    refine awp_all (fun d => d == 155 || d == 159) (fun i => if i = 31 then some [(0, []), (1, []), (2, []), (3, []), (4, []), (5, []), (6, []), (8, []), (9, []), (10, []), (12, []), (7, [0, 2, 3, 5, 8, 9, 10]), (11, [0, 2, 3, 5]), (13, []), (14, [])] else none) (by kernel_rfl) ?_
    have hMs := hMs
    rw [hk1] at hMs
    simp -dsimp [g1, g3, g4, g5, g6, g8, g13, hMs, hMp, w2]
    refine acallsW_det (car _) ?_
    simp -dsimp [g1, g3, g4, g5, g6, g8, g13, hMs, hMp, w2]
    refine condVW_introE (fun hz => ?_) (fun hz hzb _ => ?_)
    rotate_left
    · rw [thenE_ne hz] at hE
      simp -dsimp [g1, g3, g4, g5, g6, g8, g13, hMs, hMp, w2, hzb]
      exact fin _ _ hE
    rw [hz, thenE_zero] at hE
    simp -dsimp [g1, g3, g4, g5, g6, g8, g13, hMs, hMp, w2, hz]
    refine acallsW_det (ca _) ?_
    simp -dsimp [g1, g3, g4, g5, g6, g8, g13, hMs, hMp, w2]
    refine condVW_introE (fun hz2 => ?_) (fun hz2 hz2b _ => ?_)
    rotate_left
    · rw [thenE_ne hz2] at hE
      simp -dsimp [g1, g3, g4, g5, g6, g8, g13, hMs, hMp, w2, hz2b]
      exact fin _ _ hE
    rw [hz2, thenE_zero] at hE
    simp -dsimp [g1, g3, g4, g5, g6, g8, g13, hMs, hMp, w2, hz2]
    refine acallsW_det (ce _) ?_
    simp -dsimp [g1, g3, g4, g5, g6, g8, g13, hMs, hMp, w2]
    obtain ⟨hbn, hen⟩ := put_none hkd hk1
    rw [hbn, hen, smsChk, thenE_zero] at hE
    refine fin _ _ ?_
    rw [← hE]
    unfold thenE
    split
    · assumption
    · rfl
  · rw [if_neg (by omega), if_neg (by omega), if_pos (by omega)] at hE
    refine awp_all (fun d => d == 155 || d == 159) (fun i => if i = 31 then some [(0, []), (1, []), (2, []), (3, []), (4, []), (5, []), (6, []), (8, []), (9, []), (10, []), (12, []), (7, [0, 2, 3, 5, 8, 9, 10]), (11, [0, 2, 3, 5]), (13, []), (14, [])] else none) (by kernel_rfl) ?_
    have hMs := hMs
    rw [hk1] at hMs
    simp -dsimp [g1, g3, g4, g5, g6, g8, g13, hMs, hMp, w2]
    refine acallsW_det (ce _) ?_
    simp -dsimp [g1, g3, g4, g5, g6, g8, g13, hMs, hMp, w2]
    refine condVW_introE (fun hz => ?_) (fun hz hzb _ => ?_)
    rotate_left
    · rw [thenE_ne hz] at hE
      simp -dsimp [g1, g3, g4, g5, g6, g8, g13, hMs, hMp, w2, hzb]
      exact fin _ _ hE
    rw [hz, thenE_zero] at hE
    simp -dsimp [g1, g3, g4, g5, g6, g8, g13, hMs, hMp, w2, hz]
    refine acallsW_det (cb _) ?_
    simp -dsimp [g1, g3, g4, g5, g6, g8, g13, hMs, hMp, w2]
    refine condVW_introE (fun hz2 => ?_) (fun hz2 hz2b _ => ?_)
    rotate_left
    · rw [thenE_ne hz2] at hE
      simp -dsimp [g1, g3, g4, g5, g6, g8, g13, hMs, hMp, w2, hz2b]
      exact fin _ _ hE
    rw [hz2, thenE_zero] at hE
    simp -dsimp [g1, g3, g4, g5, g6, g8, g13, hMs, hMp, w2, hz2]
    refine acallsW_det (cel _) ?_
    simp -dsimp [g1, g3, g4, g5, g6, g8, g13, hMs, hMp, w2]
    exact fin _ _ hE
  · rw [if_neg (by omega), if_neg (by omega), if_pos (by omega)] at hE
    refine awp_all (fun d => d == 155 || d == 159) (fun i => if i = 31 then some [(0, []), (1, []), (2, []), (3, []), (4, []), (5, []), (6, []), (8, []), (9, []), (10, []), (12, []), (7, [0, 2, 3, 5, 8, 9, 10]), (11, [0, 2, 3, 5]), (13, []), (14, [])] else none) (by kernel_rfl) ?_
    have hMs := hMs
    rw [hk1] at hMs
    simp -dsimp [g1, g3, g4, g5, g6, g8, g13, hMs, hMp, w2]
    refine acallsW_det (ce _) ?_
    simp -dsimp [g1, g3, g4, g5, g6, g8, g13, hMs, hMp, w2]
    refine condVW_introE (fun hz => ?_) (fun hz hzb _ => ?_)
    rotate_left
    · rw [thenE_ne hz] at hE
      simp -dsimp [g1, g3, g4, g5, g6, g8, g13, hMs, hMp, w2, hzb]
      exact fin _ _ hE
    rw [hz, thenE_zero] at hE
    simp -dsimp [g1, g3, g4, g5, g6, g8, g13, hMs, hMp, w2, hz]
    refine acallsW_det (cb _) ?_
    simp -dsimp [g1, g3, g4, g5, g6, g8, g13, hMs, hMp, w2]
    refine condVW_introE (fun hz2 => ?_) (fun hz2 hz2b _ => ?_)
    rotate_left
    · rw [thenE_ne hz2] at hE
      simp -dsimp [g1, g3, g4, g5, g6, g8, g13, hMs, hMp, w2, hz2b]
      exact fin _ _ hE
    rw [hz2, thenE_zero] at hE
    simp -dsimp [g1, g3, g4, g5, g6, g8, g13, hMs, hMp, w2, hz2]
    refine acallsW_det (cel _) ?_
    simp -dsimp [g1, g3, g4, g5, g6, g8, g13, hMs, hMp, w2]
    exact fin _ _ hE
  · rw [if_neg (by omega), if_neg (by omega), if_neg (by omega), if_pos hk1] at hE
    refine awp_all (fun d => d == 155 || d == 159) (fun i => if i = 31 then some [(0, []), (1, []), (2, []), (3, []), (4, []), (5, []), (6, []), (8, []), (9, []), (10, []), (12, []), (7, [0, 2, 3, 5, 8, 9, 10]), (11, [0, 2, 3, 5]), (13, []), (14, [])] else none) (by kernel_rfl) ?_
    have hMs := hMs
    rw [hk1] at hMs
    simp -dsimp [g1, g3, g4, g5, g6, g8, g13, hMs, hMp, w2]
    refine acallsW_det (cw _) ?_
    simp -dsimp [g1, g3, g4, g5, g6, g8, g13, hMs, hMp, w2]
    refine guardVW_introTE (fun hz => ?_) (fun hz hzb _ => ?_)
    rotate_left
    · rw [thenE_ne hz] at hE
      simp -dsimp [g1, g3, g4, g5, g6, g8, g13, hMs, hMp, w2, hzb]
      exact fin _ _ hE
    rw [hz, thenE_zero] at hE
    simp -dsimp [g1, g3, g4, g5, g6, g8, g13, hMs, hMp, w2, hz]
    have chs := fun H => rhas_ok around s.name (by omega) H
    obtain ⟨b, hb⟩ : ∃ b, b = around.any fun x => decide (s.name = x) := ⟨_, rfl⟩
    rw [← hb] at chs hE
    have chr := fun H => rhas_ok F.rets s.name hprt H
    obtain ⟨b1, hb1⟩ : ∃ b1, b1 = F.rets.any fun x => decide (s.name = x) := ⟨_, rfl⟩
    rw [← hb1] at chr hE
    have cpm := fun H => rparams_ok F s.name (by omega) H
    obtain ⟨b2, hb2⟩ : ∃ b2, b2 = F.params.any fun v => decide (v.name = s.name) := ⟨_, rfl⟩
    rw [← hb2] at cpm hE
    simp only [Fc.cells] at cpm
    have hFe : p.funcs[k] = F := hF.symm
    have hn0 : ∀ (l : List Sm) (a : List ByteArray), smsCount l < m → smsCount l ≤ 2^40 → a.length + smsCount l ≤ 2^38 → ∀ H, ACalls Tryz.prog 94 [.agg p.cells, I k, Sm.sl l, I ((deep : Int) + 1), St.sl a, St.sl all] H (fun x H' => x = .ret (I (smsChk p k F tv ta all (deep + 1) a l)) ∧ H' = H) := fun l a h1 h2 h3 H => ih l (deep + 1) a h1 h2 (by omega) h3 H
    clear hb hb1 hb2 cw car ce ca cb cel cal
    obtain ⟨S, hS⟩ : ∃ S, S = smsChk p k F tv ta all (deep + 1) (around ++ [s.name]) s.body := ⟨_, rfl⟩
    rw [← hS] at hE
    replace hE := Hid.mk hE
    replace fin := Hid.mk fin
    replace hN := Hid.mk hN
    replace ih := Hid.mk ih
    replace hS := Hid.mk hS
    replace hF := Hid.mk hF
    replace hn0 := Hid.mk hn0
    replace hk1 := Hid.mk hk1
    replace hkd := Hid.mk hkd
    refine callDW_intro (chs _) ?_
    simp -dsimp [g1, g3, g4, g5, g6, g8, g13, hMs, hMp, w2, hz]
    repeat' ((with_reducible first | refine And.intro ?_ ?_ | refine guardVW_introTD (fun _ => ?_) (fun _ => ?_) | refine guardVW_introFD (fun _ => ?_) (fun _ => ?_) | refine condVW_introD (fun _ => ?_) (fun _ => ?_) | refine guardVW_introTE (fun _ => ?_) (fun _ _ _ => ?_) | refine guardVW_introFE (fun _ => ?_) (fun _ _ _ => ?_) | refine condVW_introE (fun _ => ?_) (fun _ _ _ => ?_) | refine guardVW_introTNE (fun _ _ _ => ?_) (fun _ => ?_) | refine guardVW_introFNE (fun _ _ _ => ?_) (fun _ => ?_) | refine condVW_introNE (fun _ _ _ => ?_) (fun _ => ?_) | refine guardVW_introTB (fun _ => ?_) (fun _ => ?_) | refine guardVW_introFB (fun _ => ?_) (fun _ => ?_) | refine condVW_introB (fun _ => ?_) (fun _ => ?_) | refine guardVW_introT (fun _ => ?_) (fun _ => ?_) | refine guardVW_introF (fun _ => ?_) (fun _ => ?_) | refine condVW_intro (fun _ => ?_) (fun _ => ?_) | refine acallsW_det (chr _) ?_ | refine callDW_intro (chr _) ?_ | refine acallsW_det (cpm _) ?_ | refine callDW_intro (cpm _) ?_) <;> simp -dsimp [g1, g3, g4, g5, g6, g8, g13, hMs, hMp, w2, hz, List.getElem?_eq_getElem, hk, hFe, *])
    all_goals replace hE := hE.out
    all_goals first
      | (refine fin.out 2 _ ?_
         rw [← hE]
         rename_i hh
         first
           | (rw [hh]; rfl)
           | (simp only [*, Bool.not_false, mustE_true, thenE_zero]
              first
                | (rw [decide_eq_false (by omega)]; rfl)
                | (rw [decide_eq_false (show ¬(s.high ≤ 65536) by omega), Bool.and_false]; rfl)
                | (rw [decide_eq_true (by omega), decide_eq_true (by omega)]; rfl)
                | trace_state))
      | skip
    have e1 : b = false := by assumption
    have e2 : b1 = false := by assumption
    have e3 : b2 = false := by assumption
    rw [e1, e2, e3, decide_eq_true (by omega), decide_eq_true (by omega)] at hE
    simp only [Bool.not_false, Bool.and_true, mustE_true, thenE_zero] at hE
    have hal : around.length ≤ 2^38 := by omega
    obtain ⟨ar2, har2⟩ : ∃ ar2, ar2 = around ++ [s.name] := ⟨_, rfl⟩
    have hl2 : ar2.length = around.length + 1 := by rw [har2]; simp
    have hm2 : List.map (fun s => [St s]) around ++ [[AV.v (Value.string s.name)]] = ar2.map fun s => [St s] := by rw [har2]; simp
    have hS2 := hS.out
    rw [← har2] at hS2
    have ci := fun H' (hr : H'[H.length]? = some (ownB 9 1 (ar2.map fun s => [St s]))) => inner_own H.length hr (hn0.out s.body ar2 (by omega) (by omega) (by omega) [])
    simp only [← hS2, Pg.cells] at ci
    refine appendVW_nilown H.length (hMr _) (by simp; omega) (by simp; omega) ?_
    simp -dsimp [g1, g3, g4, g5, g6, g8, g13, hMs, hMp, w2, hz, hMset]
    refine appendVW_own (es := around.map fun s => [St s]) (hMr _) (by simp; omega) (by simp; omega) ?_
    rw [hm2]
    simp -dsimp [g1, g3, g4, g5, g6, g8, g13, hMs, hMp, w2, hz, hMset]
    refine callDW_intro (ci _ (hMr _)) ?_
    simp -dsimp [g1, g3, g4, g5, g6, g8, g13, hMs, hMp, w2, hz]
    exact fin.out _ _ hE
  · rw [if_neg (by omega), if_neg (by omega), if_neg (by omega), if_neg (by omega)] at hE
    refine awp_all (fun d => d == 155 || d == 159) (fun i => if i = 31 then some [(0, []), (1, []), (2, []), (3, []), (4, []), (5, []), (6, []), (8, []), (9, []), (10, []), (12, []), (7, [0, 2, 3, 5, 8, 9, 10]), (11, [0, 2, 3, 5]), (13, []), (14, [])] else none) (by kernel_rfl) ?_
    have cc := fun H => rcall_ok p k hp hk tv ta hN all hall s deep hs hd64 H
    have hMs := hMs
    simp only [Sm.cells_eq, Pg.cells] at cc
    rw [hk1] at hMs cc
    simp -dsimp [g1, g3, g4, g5, g6, g8, g13, hMs, hMp, w2]
    refine acallsW_det (cc _) ?_
    simp -dsimp [g1, g3, g4, g5, g6, g8, g13, hMs, hMp, w2]
    exact fin _ _ hE
end Go.Proofs
namespace Go.Proofs
open Go.Mu
theorem rinner_ok (p : Pg) (k : Nat) (hp : p.Ok) (hk : k < p.funcs.length) (F : Fc) (hF : F = p.funcs[k]) (tv : List (ByteArray × Vr)) (ta : List (ByteArray × Bool)) (hN : NamesAt p k hk tv ta) (all : List ByteArray) (hall : all.length ≤ 2^40) (m : Nat) : InnerC p k F tv ta all m := by
  induction m with
  | zero => intro l deep around h; omega
  | succ m ih =>
    intro l deep around hm hc hd har H
    refine acalls_tidy (acalls_of_awp Tryz.func94 rfl (by kernel_rfl) ?_)
    have hlen := sms_len l
    obtain ⟨M, hM⟩ : ∃ M, M = H ++ [.box 25 p.cells] := ⟨_, rfl⟩
    have hMp : M[H.length]? = some (.box 25 p.cells) := by rw [hM]; simp
    obtain ⟨E, hE⟩ : ∃ E, E = smsChk p k F tv ta all deep around l := ⟨_, rfl⟩
    have fin : ∀ c, c = E → Tidy H (fun x H' => x = .ret (I E) ∧ H' = H) (.ret (I c)) M := fun c hc => by rw [hM, hc]; exact tidy_same rfl ⟨rfl, rfl⟩
    rw [← hE]
    simp only [Pg.cells] at hM hMp
    refine awp_cut (fun _ => false) (fun _ => none) (fun f H' => M = H' ∧ f 6 = .bp H.length 0 ∧ f 1 = I k ∧ f 2 = Sm.sl l ∧ f 3 = I deep ∧ f 4 = St.sl around ∧ f 5 = St.sl all) (by kernel_rfl) ?_ ?_
    · simp -dsimp [hM]
    clear hM
    rintro g _ ⟨rfl, g6, g1, g2, g3, g4, g5⟩
    refine awp_all (fun _ => false) (fun _ => none) (by kernel_rfl) ?_
    simp -dsimp [g1, g2, g3, g4, g5, g6]
    refine loop_rule (hn := fun _ => false) (od := fun _ => none) (fun (i : Nat) f H' => M = H' ∧ f 6 = .bp H.length 0 ∧ f 1 = I k ∧ f 2 = Sm.sl l ∧ f 3 = I deep ∧ f 4 = St.sl around ∧ f 5 = St.sl all ∧ f 13 = I i ∧ i ≤ l.length ∧ smsChk p k F tv ta all deep around (l.drop i) = E) (fun i => l.length - i) (by kernel_rfl) 0 (by simp [g1, g2, g3, g4, g5, g6, hE]) ?_
    clear g g1 g2 g3 g4 g5 g6 hE
    rintro i g _ ⟨rfl, g6, g1, g2, g3, g4, g5, g13, hi, hinv⟩
    simp -dsimp [g1, g2, g3, g4, g5, g6, g13]
    refine condVW_introD (fun hlt => ?_) (fun hlt => ?_)
    · rw [drop_cons hlt, smsChk] at hinv
      have hg := sms_get hlt
      have cs := fun H => rstmt_ok p k hp hk F hF tv ta hN all hall m ih l[i] deep around (by omega) (by omega) hd (by omega) H
      simp only [Pg.cells, Sm.cells_eq] at cs
      simp -dsimp [g1, g2, g3, g4, g5, g6, g13, hMp, List.getElem?_eq_getElem, hlt]
      refine callDW_intro (cs _) ?_
      simp -dsimp [g1, g2, g3, g4, g5, g6, g13]
      refine condVW_introNE (fun hz _ _ => ?_) (fun hz => ?_)
      · rw [thenE_ne hz] at hinv
        simp -dsimp
        exact fin _ hinv
      · rw [hz, thenE_zero] at hinv
        simp -dsimp [g1, g2, g3, g4, g5, g6, g13]
        exact ⟨i + 1, by omega, wrapS (by omega), by omega, hinv⟩
    · rw [drop_end hlt, smsChk] at hinv
      simp -dsimp
      exact fin _ hinv
theorem rstmts_ok (p : Pg) (k : Nat) (hp : p.Ok2) (hk : k < p.funcs.length) (F : Fc) (hF : F = p.funcs[k]) (tv : List (ByteArray × Vr)) (ta : List (ByteArray × Bool)) (hN : NamesAt p k hk tv ta) (l : List Sm) (deep : Nat) (around : List ByteArray) (hl : smsCount l ≤ 2^40) (hd : deep ≤ 65) (har : around.length + smsCount l ≤ 2^38) (H : List Blk) :
    ACalls Tryz.prog 50 [.agg p.cells, I k, Sm.sl l, I deep, St.sl around] H (fun x H' => x = .ret (I (smsChk p k F tv ta (smsWords 1 F.body) deep around l)) ∧ H' = H) := by
  refine acalls_tidy (acalls_of_vc (hn := fun _ => false) (od := fun _ => none) Tryz.func50 rfl (by kernel_rfl) ?_)
  have hb := hp.body36 _ (List.getElem_mem hk)
  rw [← hF] at hb
  have cc := fun H => rcounts_ok _ F.body 1 (Nat.lt_succ_self _) hb (by omega) H
  have hw := smsWords_len _ F.body (Nat.le_refl _) 1
  have ci := fun H => rinner_ok p k hp.ok hk F hF tv ta hN (smsWords 1 F.body) (by omega) _ l deep around (Nat.lt_succ_self _) hl hd har H
  simp only [Pg.cells] at ci
  simp -dsimp [List.getElem?_eq_getElem, hk, ← hF]
  refine callDW_intro (cc _) ?_
  simp -dsimp
  refine callDW_intro (ci _) ?_
  simp -dsimp
  exact tidy_same rfl ⟨rfl, rfl⟩
mutual
def Ex.num (deep : Nat) : Ex → Nat
  | .mk _ _ _ args => if 64 < deep then 0 else 1 + exsNum (deep + 1) args
def exsNum (deep : Nat) : List Ex → Nat
  | [] => 0
  | e :: l => e.num deep + exsNum deep l
end
theorem Ex.num_eq (deep : Nat) (e : Ex) : e.num deep = if 64 < deep then 0 else 1 + exsNum (deep + 1) e.args := by cases e; rw [Ex.num]; rfl
theorem exsNum_le (m : Nat) : ∀ (l : List Ex) (deep : Nat), exsCount l ≤ m → exsNum deep l ≤ exsCount l := by
  induction m with
  | zero => intro l deep hl; have := exs_len l; have : l = [] := List.eq_nil_of_length_eq_zero (by omega); subst this; simp [exsNum]
  | succ m ih =>
    intro l deep
    induction l with
    | nil => intro _; simp [exsNum]
    | cons e l ihl =>
      intro hl
      simp only [exsCount, exsNum] at hl ⊢
      have he := Ex.count_eq e
      have h1 : e.num deep ≤ e.count := by
        rw [Ex.num_eq]
        split
        · omega
        · have := ih e.args (deep + 1) (by omega); omega
      have := ihl (by omega)
      omega
theorem Ex.num_le (deep : Nat) (e : Ex) : e.num deep ≤ e.count := by
  rw [Ex.num_eq, Ex.count_eq]
  split
  · omega
  · have := exsNum_le _ e.args (deep + 1) (Nat.le_refl _); omega
theorem rexprs_ok (m : Nat) : ∀ (e : Ex) (deep : Nat), e.count ≤ m → e.count ≤ 2^40 → deep ≤ 65 → ∀ (H : List Blk),
    ACalls Tryz.prog 131 [.agg e.cells, I deep] H (fun x H' => x = .ret (I (e.num deep)) ∧ H' = H) := by
  induction m with
  | zero => intro e deep h; have := Ex.count_eq e; omega
  | succ m ih =>
    intro e deep hm hc hd H
    refine acalls_tidy (acalls_of_awp Tryz.func131 rfl (by kernel_rfl) ?_)
    have hce := Ex.count_eq e
    have hla := exs_len e.args
    have hnl := exsNum_le _ e.args (deep + 1) (Nat.le_refl _)
    obtain ⟨M, hM⟩ : ∃ M, M = H ++ [.box 53 e.cells] := ⟨_, rfl⟩
    have hMe : M[H.length]? = some (.box 53 e.cells) := by rw [hM]; simp
    obtain ⟨E, hE⟩ : ∃ E, E = e.num deep := ⟨_, rfl⟩
    have fin : ∀ c : Int, c = (E : Int) → Tidy H (fun x H' => x = .ret (I E) ∧ H' = H) (.ret (I c)) M := fun c hc => by rw [hM, hc]; exact tidy_same rfl ⟨rfl, rfl⟩
    rw [← hE]
    rw [Ex.num_eq] at hE
    simp only [Ex.cells_eq] at hM hMe
    refine awp_cut (fun _ => false) (fun _ => none) (fun f H' => M = H' ∧ f 2 = .bp H.length 0 ∧ f 1 = I deep) (by kernel_rfl) ?_ ?_
    · simp -dsimp [hM]
    clear hM
    rintro g _ ⟨rfl, g2, g1⟩
    refine awp_cut (fun _ => false) (fun _ => none) (fun f H' => M = H' ∧ f 2 = .bp H.length 0 ∧ f 1 = I deep ∧ deep ≤ 64) (by kernel_rfl) ?_ ?_
    · simp -dsimp [g1, g2]
      refine condVW_introD (fun h => ?_) (fun h => ?_)
      · simp -dsimp
        rw [if_pos (by omega)] at hE
        exact fin 0 (by omega)
      · simp -dsimp [g1, g2]
        omega
    clear g g1 g2
    rintro g _ ⟨rfl, g2, g1, hd64⟩
    rw [if_neg (by omega)] at hE
    have w2 : IntKind.i64.wrap ((deep : Int) + 1) = (deep : Int) + 1 := wrapI (by omega) (by omega)
    refine awp_all (fun _ => false) (fun _ => none) (by kernel_rfl) ?_
    simp -dsimp [g1, g2]
    refine loop_rule (hn := fun _ => false) (od := fun _ => none) (fun (i : Nat) f H' => M = H' ∧ f 2 = .bp H.length 0 ∧ f 1 = I deep ∧ f 6 = I i ∧ i ≤ e.args.length ∧ ∃ n : Nat, f 5 = I n ∧ n + exsNum (deep + 1) (e.args.drop i) = E) (fun i => e.args.length - i) (by kernel_rfl) 0 (by simp [g1, g2]; exact ⟨1, rfl, by omega⟩) ?_
    clear g g1 g2
    rintro i g _ ⟨rfl, g2, g1, g6, hi, n, g5, hn⟩
    simp -dsimp [g1, g2, g5, g6, hMe]
    refine condVW_introD (fun hlt => ?_) (fun hlt => ?_)
    · rw [drop_cons hlt, exsNum] at hn
      have hg := exs_get hlt
      have cr := fun H => ih e.args[i] (deep + 1) (by omega) (by omega) (by omega) H
      simp only [Ex.cells_eq, show ((deep + 1 : Nat) : Int) = (deep : Int) + 1 from rfl] at cr
      have w3 : IntKind.i64.wrap ((n : Int) + (e.args[i].num (deep + 1) : Nat)) = ((n + e.args[i].num (deep + 1) : Nat) : Int) := by rw [wrapI (by omega) (by omega)]; rfl
      simp -dsimp [g1, g2, g5, g6, hMe, w2, List.getElem?_eq_getElem, hlt]
      refine acallsW_det (cr _) ?_
      simp -dsimp [g1, g2, g5, g6, w2]
      exact ⟨i + 1, by omega, wrapS (by omega), by omega, _, w3, by omega⟩
    · rw [drop_end hlt, exsNum] at hn
      simp -dsimp [g5]
      exact fin _ (by omega)
end Go.Proofs
namespace Go.Proofs
open Go.Mu
def Ex.nz (deep : Nat) (e : Ex) : Nat := if blankB e then 0 else e.num deep
def exsNz (deep : Nat) : List Ex → Nat
  | [] => 0
  | e :: l => e.nz deep + exsNz deep l
mutual
def Sm.num (deep : Nat) : Sm → Nat
  | .mk _ _ _ e a args _ _ body els => 1 + e.nz deep + a.nz deep + exsNz deep args + smsNum (deep + 1) body + smsNum (deep + 1) els
def smsNum (deep : Nat) : List Sm → Nat
  | [] => 0
  | s :: l => if 64 < deep then 0 else s.num deep + smsNum deep l
end
theorem Sm.num_eq (deep : Nat) (s : Sm) : s.num deep = 1 + s.e.nz deep + s.a.nz deep + exsNz deep s.args + smsNum (deep + 1) s.body + smsNum (deep + 1) s.els := by cases s; rw [Sm.num]; rfl
theorem smsNum_deep {deep : Nat} (h : 64 < deep) (l : List Sm) : smsNum deep l = 0 := by
  cases l with
  | nil => rw [smsNum]
  | cons s l => rw [smsNum, if_pos h]
theorem Ex.nz_le (deep : Nat) (e : Ex) : e.nz deep ≤ e.count := by
  unfold Ex.nz
  split
  · omega
  · exact e.num_le deep
theorem exsNz_le (deep : Nat) : ∀ (l : List Ex), exsNz deep l ≤ exsCount l
  | [] => by simp [exsNz]
  | e :: l => by
    simp only [exsNz, exsCount]
    have := e.nz_le deep
    have := exsNz_le deep l
    omega
theorem smsNum_le (m : Nat) : ∀ (l : List Sm) (deep : Nat), smsCount l ≤ m → smsNum deep l ≤ smsCount l := by
  induction m with
  | zero => intro l deep hl; have := sms_len l; have : l = [] := List.eq_nil_of_length_eq_zero (by omega); subst this; simp [smsNum]
  | succ m ih =>
    intro l deep
    induction l with
    | nil => intro _; simp [smsNum]
    | cons s l ihl =>
      intro hl
      simp only [smsCount] at hl
      have he := Sm.count_eq s
      rw [smsNum, smsCount]
      split
      · omega
      · rw [Sm.num_eq]
        have a := ih s.body (deep + 1) (by omega)
        have b := ih s.els (deep + 1) (by omega)
        have c := ihl (by omega)
        have d := s.e.nz_le deep
        have e := s.a.nz_le deep
        have f := exsNz_le deep s.args
        omega
theorem rnum_ok (m : Nat) : ∀ (l : List Sm) (deep : Nat), smsCount l < m → smsCount l ≤ 2^40 → deep ≤ 65 → ∀ (H : List Blk),
    ACalls Tryz.prog 92 [Sm.sl l, I deep] H (fun x H' => x = .ret (I (smsNum deep l)) ∧ H' = H) := by
  induction m with
  | zero => intro l deep h; omega
  | succ m ih =>
    intro l deep hm hc hd H
    refine acalls_of_awp Tryz.func92 rfl (by kernel_rfl) ?_
    have hlen := sms_len l
    have hnl := smsNum_le _ l deep (Nat.le_refl _)
    obtain ⟨E, hE⟩ : ∃ E, E = smsNum deep l := ⟨_, rfl⟩
    rw [← hE] at hnl ⊢
    refine awp_cut (fun _ => false) (fun _ => none) (fun f H' => H = H' ∧ f 0 = Sm.sl l ∧ f 1 = I deep) (by kernel_rfl) ?_ ?_
    · simp -dsimp
    rintro g _ ⟨rfl, g0, g1⟩
    refine awp_cut (fun _ => false) (fun _ => none) (fun f H' => H = H' ∧ f 0 = Sm.sl l ∧ f 1 = I deep ∧ deep ≤ 64) (by kernel_rfl) ?_ ?_
    · simp -dsimp [g0, g1]
      refine condVW_introD (fun h => ?_) (fun h => ?_)
      · simp -dsimp
        rw [hE, smsNum_deep (by omega)]
        rfl
      · simp -dsimp [g0, g1]
        omega
    clear g g0 g1
    rintro g _ ⟨rfl, g0, g1, hd64⟩
    have w2 : IntKind.i64.wrap ((deep : Int) + 1) = (deep : Int) + 1 := wrapI (by omega) (by omega)
    refine awp_cut (fun _ => false) (fun _ => none) (fun f H' => H = H' ∧ f 0 = Sm.sl l ∧ f 1 = I deep ∧ f 5 = I 0) (by kernel_rfl) ?_ ?_
    · simp -dsimp [g0, g1]
    clear g g0 g1
    rintro g _ ⟨rfl, g0, g1, g5⟩
    refine awp_cutA (fun f H' => H = H' ∧ f 5 = I E) ?_ ?_
    rotate_left
    · clear g g0 g1 g5
      rintro g _ ⟨rfl, g5⟩
      refine awp_all (fun _ => false) (fun _ => none) (by kernel_rfl) ?_
      simp -dsimp [g5]
    refine awp_cut (fun _ => false) (fun _ => none) (fun f H' => H = H' ∧ f 0 = Sm.sl l ∧ f 1 = I deep ∧ f 5 = I 0 ∧ f 6 = I 0) (by kernel_rfl) ?_ ?_
    · simp -dsimp [g0, g1, g5]
    clear g g0 g1 g5
    rintro g _ ⟨rfl, g0, g1, g5, g6⟩
    refine awp_block ?_
    refine awp_loopI (fun (i : Nat) f H' => H = H' ∧ f 0 = Sm.sl l ∧ f 1 = I deep ∧ f 6 = I i ∧ i ≤ l.length ∧ ∃ n : Nat, f 5 = I n ∧ n + smsNum deep (l.drop i) = E) (fun i => l.length - i) 0 ⟨rfl, g0, g1, g6, by omega, 0, g5, by rw [hE]; simp⟩ ?_
    clear g g0 g1 g5 g6
    rintro i g _ ⟨rfl, g0, g1, g6, hi, n, g5, hn⟩
    refine awp_cut (fun _ => false) (fun _ => none) (fun f H' => H = H' ∧ f 0 = Sm.sl l ∧ f 1 = I deep ∧ f 6 = I i ∧ f 5 = I n ∧ i < l.length) (by kernel_rfl) ?_ ?_
    · simp -dsimp [g0, g1, g5, g6]
      refine condVW_introD (fun hlt => ?_) (fun hlt => ?_)
      · simp -dsimp [g0, g1, g5, g6]
        omega
      · rw [drop_end hlt, smsNum, Nat.add_zero] at hn
        simp -dsimp [g5]
        omega
    clear g g0 g1 g5 g6
    rintro g _ ⟨rfl, g0, g1, g6, g5, hlt⟩
    rw [drop_cons hlt, smsNum, if_neg (by omega)] at hn
    have hg := sms_get hlt
    have hsc := Sm.count_eq l[i]
    obtain ⟨s, hs⟩ : ∃ s, s = l[i] := ⟨_, rfl⟩
    rw [← hs] at hn hg hsc
    rw [Sm.num_eq] at hn
    obtain ⟨N, hN⟩ : ∃ N, N = n + (1 + s.e.nz deep + s.a.nz deep + exsNz deep s.args + smsNum (deep + 1) s.body + smsNum (deep + 1) s.els) := ⟨_, rfl⟩
    refine awp_cutA (fun f H' => H = H' ∧ f 0 = Sm.sl l ∧ f 1 = I deep ∧ f 6 = I i ∧ f 5 = I N) ?_ ?_
    rotate_left
    · clear g g0 g1 g5 g6
      rintro g _ ⟨rfl, g0, g1, g6, g5⟩
      refine awp_all (fun _ => false) (fun _ => none) (by kernel_rfl) ?_
      simp -dsimp [g0, g1, g5, g6]
      first
        | exact ⟨i + 1, by omega, wrapS (by omega), by omega, N, rfl, by omega⟩
        | exact ⟨i + 1, by omega, wrapS (by omega), by omega, by omega⟩
    refine awp_block ?_
    refine awp_cut (fun _ => false) (fun _ => none) (fun f H' => H = H' ∧ f 0 = Sm.sl l ∧ f 1 = I deep ∧ f 6 = I i ∧ f 5 = I (n + 1 : Nat)) (by kernel_rfl) ?_ ?_
    · simp -dsimp [g0, g1, g5, g6]
      exact wrapI (by omega) (by omega)
    clear g g0 g1 g5 g6
    rintro g _ ⟨rfl, g0, g1, g6, g5⟩
    have d1 := fun H => nothing_ok s.e H
    have d2 := fun H => nothing_ok s.a H
    have x1 := fun H => rexprs_ok _ s.e deep (Nat.le_refl _) (by omega) (by omega) H
    have x2 := fun H => rexprs_ok _ s.a deep (Nat.le_refl _) (by omega) (by omega) H
    simp only [Ex.cells_eq] at d1 d2 x1 x2
    have m1 := s.e.num_le deep
    have m2 := s.a.num_le deep
    have m3 := exsNz_le deep s.args
    have hnz := s.e.nz_le deep
    have hnz2 := s.a.nz_le deep
    refine awp_cut (fun _ => false) (fun _ => none) (fun f H' => H = H' ∧ f 0 = Sm.sl l ∧ f 1 = I deep ∧ f 6 = I i ∧ f 5 = I (n + 1 + s.e.nz deep : Nat)) (by kernel_rfl) ?_ ?_
    · simp -dsimp [g0, g1, g5, g6, List.getElem?_eq_getElem, hlt, ← hs]
      refine acallsW_det (d1 _) ?_
      unfold Ex.nz
      cases hb : blankB s.e
      · simp -dsimp [g0, g1, g5, g6, List.getElem?_eq_getElem, hlt, ← hs]
        refine acallsW_det (x1 _) ?_
        simp -dsimp [g0, g1, g5, g6]
        exact wrapI (by omega) (by omega)
      · simp -dsimp [g0, g1, g5, g6]
    clear g g0 g1 g5 g6
    rintro g _ ⟨rfl, g0, g1, g6, g5⟩
    obtain ⟨n1, hn1⟩ : ∃ n1, n1 = n + 1 + s.e.nz deep := ⟨_, rfl⟩
    rw [← hn1] at g5
    refine awp_cut (fun _ => false) (fun _ => none) (fun f H' => H = H' ∧ f 0 = Sm.sl l ∧ f 1 = I deep ∧ f 6 = I i ∧ f 5 = I (n1 + s.a.nz deep : Nat)) (by kernel_rfl) ?_ ?_
    · simp -dsimp [g0, g1, g5, g6, List.getElem?_eq_getElem, hlt, ← hs]
      refine acallsW_det (d2 _) ?_
      unfold Ex.nz
      cases hb : blankB s.a
      · simp -dsimp [g0, g1, g5, g6, List.getElem?_eq_getElem, hlt, ← hs]
        refine acallsW_det (x2 _) ?_
        simp -dsimp [g0, g1, g5, g6]
        exact wrapI (by omega) (by omega)
      · simp -dsimp [g0, g1, g5, g6]
    clear g g0 g1 g5 g6
    rintro g _ ⟨rfl, g0, g1, g6, g5⟩
    obtain ⟨n2, hn2⟩ : ∃ n2, n2 = n1 + s.a.nz deep := ⟨_, rfl⟩
    rw [← hn2] at g5
    have hla := exs_len s.args
    refine awp_cut (fun _ => false) (fun _ => none) (fun f H' => H = H' ∧ f 0 = Sm.sl l ∧ f 1 = I deep ∧ f 6 = I i ∧ f 5 = I (n2 + exsNz deep s.args : Nat)) (by kernel_rfl) ?_ ?_
    · simp -dsimp [g0, g1, g5, g6]
      refine loop_rule (hn := fun _ => false) (od := fun _ => none) (fun (j : Nat) f H' => H = H' ∧ f 0 = Sm.sl l ∧ f 1 = I deep ∧ f 6 = I i ∧ f 7 = I j ∧ j ≤ s.args.length ∧ ∃ q : Nat, f 5 = I q ∧ q + exsNz deep (s.args.drop j) = n2 + exsNz deep s.args) (fun j => s.args.length - j) (by kernel_rfl) 0 (by simp [g0, g1, g5, g6]) ?_
      clear g g0 g1 g5 g6
      rintro j g _ ⟨rfl, g0, g1, g6, g7, hj, q, g5, hq⟩
      simp -dsimp [g0, g1, g5, g6, g7, List.getElem?_eq_getElem, hlt, ← hs]
      refine condVW_introD (fun hjt => ?_) (fun hjt => ?_)
      · rw [drop_cons hjt, exsNz] at hq
        have hxg := exs_get hjt
        have d3 := fun H => nothing_ok s.args[j] H
        have x3 := fun H => rexprs_ok _ s.args[j] deep (Nat.le_refl _) (by omega) (by omega) H
        simp only [Ex.cells_eq] at d3 x3
        have m5 := s.args[j].nz_le deep
        simp -dsimp [g0, g1, g5, g6, g7, List.getElem?_eq_getElem, hlt, hjt, ← hs]
        refine acallsW_det (d3 _) ?_
        unfold Ex.nz at hq m5
        cases hb : blankB s.args[j]
        · rw [hb] at hq m5
          simp only [Bool.false_eq_true, if_false] at hq m5
          simp -dsimp [g0, g1, g5, g6, g7, List.getElem?_eq_getElem, hlt, hjt, ← hs]
          refine acallsW_det (x3 _) ?_
          simp -dsimp [g0, g1, g5, g6, g7]
          exact ⟨j + 1, by omega, wrapS (by omega), by omega, q + s.args[j].num deep, wrapI (by omega) (by omega), by omega⟩
        · rw [hb] at hq
          simp only [if_true] at hq
          simp -dsimp [g0, g1, g5, g6, g7]
          first
            | exact ⟨j + 1, by omega, wrapS (by omega), by omega, q, rfl, by omega⟩
            | exact ⟨j + 1, by omega, wrapS (by omega), by omega, by omega⟩
            | trace_state
      · rw [drop_end hjt, exsNz] at hq
        simp -dsimp [g0, g1, g5, g6]
        omega
    clear g g0 g1 g5 g6
    rintro g _ ⟨rfl, g0, g1, g6, g5⟩
    obtain ⟨n3, hn3⟩ : ∃ n3, n3 = n2 + exsNz deep s.args := ⟨_, rfl⟩
    rw [← hn3] at g5
    have cb := fun H => ih s.body (deep + 1) (by omega) (by omega) (by omega) H
    have ce := fun H => ih s.els (deep + 1) (by omega) (by omega) (by omega) H
    simp only [show ((deep + 1 : Nat) : Int) = (deep : Int) + 1 from rfl] at cb ce
    have w3 : IntKind.i64.wrap ((n3 : Int) + (smsNum (deep + 1) s.body : Nat)) = ((n3 + smsNum (deep + 1) s.body : Nat) : Int) := by rw [wrapI (by omega) (by omega)]; rfl
    have w4 : IntKind.i64.wrap (((n3 + smsNum (deep + 1) s.body : Nat) : Int) + (smsNum (deep + 1) s.els : Nat)) = ((n3 + smsNum (deep + 1) s.body + smsNum (deep + 1) s.els : Nat) : Int) := by rw [wrapI (by omega) (by omega)]; rfl
    refine awp_all (fun _ => false) (fun _ => none) (by kernel_rfl) ?_
    simp -dsimp [g0, g1, g5, g6, w2, List.getElem?_eq_getElem, hlt, ← hs]
    refine callDW_intro (cb _) ?_
    simp -dsimp [g0, g1, g5, g6, w2, List.getElem?_eq_getElem, hlt, ← hs]
    refine callDW_intro (ce _) ?_
    simp -dsimp [g0, g1, g5, g6]
    rw [w3, w4]
    omega
end Go.Proofs
namespace Go.Proofs
open Go.Mu
theorem exsCnt_num (m : Nat) : ∀ (l : List Ex), exsCount l ≤ m → ∀ (deep : Nat) (n : Int), 0 ≤ n → n ≤ 65537 → exsCnt deep n l = min (n + exsNum deep l) 65537 := by
  induction m with
  | zero => intro l hl deep n h0 h1; have := exs_len l; have : l = [] := List.eq_nil_of_length_eq_zero (by omega); subst this; simp only [exsCnt, exsNum]; omega
  | succ m ih =>
    intro l
    induction l with
    | nil => intro _ deep n h0 h1; simp only [exsCnt, exsNum]; omega
    | cons e l ihl =>
      intro hl deep n h0 h1
      simp only [exsCount] at hl
      have he := Ex.count_eq e
      have h2 : e.cnt deep n = min (n + e.num deep) 65537 := by
        rw [Ex.cnt_eq, Ex.num_eq]
        by_cases hd : 64 < deep
        · rw [if_pos (by omega), if_pos hd]; omega
        · rw [if_neg (by omega), if_neg hd]
          by_cases hn : 65536 < n
          · rw [if_pos hn]; omega
          · rw [if_neg hn]
            have := ih e.args (by omega) (deep + 1) (n + 1) (by omega) (by omega)
            rw [show ((deep + 1 : Nat) : Int) = (deep : Int) + 1 from rfl] at this
            rw [this]; omega
      rw [exsCnt, exsNum, h2]
      have := ihl (by omega) deep (min (n + e.num deep) 65537) (by omega) (by omega)
      rw [this]; omega
theorem Ex.cnt_num (e : Ex) (deep : Nat) (n : Int) (h0 : 0 ≤ n) (h1 : n ≤ 65537) : e.cnt deep n = min (n + e.num deep) 65537 := by
  have h := exsCnt_num _ [e] (Nat.le_refl _) deep n h0 h1
  simp only [exsCnt, exsNum] at h
  rw [h]; omega
theorem exsCntB_num (deep : Nat) : ∀ (l : List Ex) (n : Int), 0 ≤ n → n ≤ 65537 → exsCntB deep n l = min (n + exsNz deep l) 65537
  | [], n, h0, h1 => by simp only [exsCntB, exsNz]; omega
  | e :: l, n, h0, h1 => by
    rw [exsCntB, exsNz, Ex.nz]
    split
    · rw [exsCntB_num deep l n h0 h1]; omega
    · rw [Ex.cnt_num e deep n h0 h1, exsCntB_num deep l _ (by omega) (by omega)]; omega
theorem smsCnt_num (m : Nat) : ∀ (l : List Sm), smsCount l ≤ m → ∀ (deep : Nat) (n : Int), 0 ≤ n → n ≤ 65537 → smsCnt deep n l = min (n + smsNum deep l) 65537 := by
  induction m with
  | zero => intro l hl deep n h0 h1; have := sms_len l; have : l = [] := List.eq_nil_of_length_eq_zero (by omega); subst this; simp only [smsCnt, smsNum]; omega
  | succ m ih =>
    intro l
    induction l with
    | nil => intro _ deep n h0 h1; simp only [smsCnt, smsNum]; omega
    | cons s l ihl =>
      intro hl deep n h0 h1
      simp only [smsCount] at hl
      have he := Sm.count_eq s
      rw [smsCnt, smsNum]
      by_cases hd : 64 < deep
      · rw [if_pos (by omega), if_pos hd]; omega
      · rw [if_neg (by omega), if_neg hd]
        by_cases hn : 65536 < n
        · rw [if_pos hn]; omega
        · rw [if_neg hn, Sm.cnt_eq, Sm.num_eq]
          have q1 := exsCntB_num deep (s.e :: s.a :: s.args) (n + 1) (by omega) (by omega)
          simp only [exsNz] at q1
          have q2 := ih s.body (by omega) (deep + 1) (exsCntB deep (n + 1) (s.e :: s.a :: s.args)) (by omega) (by omega)
          have q3 := ih s.els (by omega) (deep + 1) (smsCnt ((deep : Int) + 1) (exsCntB deep (n + 1) (s.e :: s.a :: s.args)) s.body) (by rw [show ((deep : Int) + 1) = ((deep + 1 : Nat) : Int) from rfl]; omega) (by rw [show ((deep : Int) + 1) = ((deep + 1 : Nat) : Int) from rfl]; omega)
          rw [show ((deep + 1 : Nat) : Int) = (deep : Int) + 1 from rfl] at q2 q3
          rw [q3, ihl (by omega) deep _ (by omega) (by omega)]
          omega
def funcsNum : List Fc → Nat
  | [] => 0
  | f :: l => smsNum 1 f.body + funcsNum l
theorem funcsCnt_num : ∀ (l : List Fc) (n : Int), 0 ≤ n → n ≤ 65537 → funcsCnt n l = min (n + funcsNum l) 65537
  | [], n, h0, h1 => by simp only [funcsCnt, funcsNum]; omega
  | f :: l, n, h0, h1 => by
    have q := smsCnt_num _ f.body (Nat.le_refl _) 1 n h0 h1
    rw [show ((1 : Nat) : Int) = 1 from rfl] at q
    rw [funcsCnt, funcsNum, q, funcsCnt_num l _ (by omega) (by omega)]; omega
theorem sizeM_num (p : Pg) : sizeM p = min (funcsNum p.funcs : Int) 65537 := by rw [sizeM, funcsCnt_num _ _ (by omega) (by omega)]; omega
theorem funcsNum_drop {l : List Fc} {i : Nat} (h : i < l.length) : funcsNum (l.drop i) = smsNum 1 l[i].body + funcsNum (l.drop (i + 1)) := by rw [drop_cons h, funcsNum]
theorem rsize_ok (p : Pg) (hp : p.Ok2) (hn : funcsNum p.funcs ≤ 2^50) (H : List Blk) : ACalls Tryz.prog 46 [.agg p.cells] H (fun e H' => e = .ret (I (sizeM p)) ∧ H' = H) := by
  refine acalls_tidy (acalls_of_vc (hn := fun _ => false) (od := fun _ => none) Tryz.func46 rfl (by kernel_rfl) ?_)
  have hpf := hp.ok.funcs
  obtain ⟨M, hM⟩ : ∃ M, M = H ++ [.box 25 p.cells] := ⟨_, rfl⟩
  have hMp : M[H.length]? = some (.box 25 p.cells) := by rw [hM]; simp
  have fin : ∀ c, c = sizeM p → Tidy H (fun x H' => x = .ret (I (sizeM p)) ∧ H' = H) (.ret (I c)) M := fun c hc => by rw [hM, hc]; exact tidy_same rfl ⟨rfl, rfl⟩
  have hsz := sizeM_num p
  simp only [Pg.cells] at hM hMp
  simp -dsimp
  rw [← hM]
  refine loop_rule (hn := fun _ => false) (od := fun _ => none) (fun (i : Nat) f H' => M = H' ∧ f 1 = .bp H.length 0 ∧ f 4 = I i ∧ i ≤ p.funcs.length ∧ ∃ n : Nat, f 3 = I n ∧ n + funcsNum (p.funcs.drop i) = funcsNum p.funcs) (fun i => p.funcs.length - i) (by kernel_rfl) 0 (by simp) ?_
  clear hM
  rintro i g _ ⟨rfl, g1, g4, hi, n, g3, hnn⟩
  simp -dsimp [g1, g3, g4, hMp]
  refine condVW_introD (fun hlt => ?_) (fun hlt => ?_)
  · rw [funcsNum_drop hlt] at hnn
    have hb := hp.body36 _ (List.getElem_mem hlt)
    have cs := fun H => rnum_ok _ p.funcs[i].body 1 (Nat.lt_succ_self _) (by omega) (by omega) H
    have w3 : IntKind.i64.wrap ((n : Int) + (smsNum 1 p.funcs[i].body : Nat)) = ((n + smsNum 1 p.funcs[i].body : Nat) : Int) := by rw [wrapI (by omega) (by omega)]; rfl
    simp -dsimp [g1, g3, g4, hMp, List.getElem?_eq_getElem, hlt]
    refine acallsW_det (cs _) ?_
    simp -dsimp [g1, g3, g4]
    exact ⟨i + 1, by omega, wrapS (by omega), by omega, _, w3, by omega⟩
  · rw [drop_end hlt, funcsNum, Nat.add_zero] at hnn
    simp -dsimp [g3]
    refine condVW_introD (fun h => ?_) (fun h => ?_)
    · simp -dsimp
      exact fin _ (by omega)
    · simp -dsimp [g3]
      exact fin _ (by omega)
end Go.Proofs
